/- Part of a proof. -/
import Derived.Test.YtmcncjgbkobjnaaGreatIc
set_option linter.unusedSimpArgs false
set_option linter.unusedVariables false
noncomputable section
namespace Go.Proofs.YtmcncjgbkobjnaaGreat.Am
open Go.RowKit
inductive W where
 | code (c:Code)
 | blk (id:Nat)
section
variable (T:Nat->Option Ty) (Γ:Env) (N F:Nat)
def cA:List W->Kt->Kt
 | [],Q=>Q
 | .code c::ws,Q=>fun x t h e=>adB x (Pu T Γ N F c t h e (cA ws Q)) (cA ws Q x t h e)
 | .blk id::ws,Q=>fun x t h e=>WA id x t h e (cA ws Q)
def jl (ops l:List Oper) (ws:List W) (Q:Kt) (t:Nat->D) (h:Nat->Option Row) (e:Nat):Prop :=
 EA T Γ N e ops l t h fun t h=>cA T Γ N F ws Q .normal t h (e+1)
def j0 (ops l:List Oper) (ws:List W) (Q:Kt) (t:Nat->D) (h:Nat->Option Row) (e:Nat) (fs:List jg):Prop :=
 runK T Γ N e ops l t h fs fun t h fs=>CB ops.toArray fs=true∧cA T Γ N F ws Q .normal t h (e+1)
def mZ (o:Oper) (ops l:List Oper) (ws:List W) (Q:Kt) (t:Nat->D) (h:Nat->Option Row) (e:Nat):Prop :=
 Ps T Γ e o t h fun t E=>jl T Γ N F ops l ws Q (dU t o.dst E.val) (aH h E.hw) e
def nc (o:Oper) (ops l:List Oper) (ws:List W) (Q:Kt) (t:Nat->D) (h:Nat->Option Row) (e:Nat) (fs:List jg):Prop :=
 Ps T Γ e o t h fun t E=>j0 T Γ N F ops l ws Q (dU t o.dst E.val) (aH h E.hw) e (fs++[⟨bl o (ev t),E.hw.isEmpty⟩])
def vt (d:D) (g:Nat) (want:Bool) (o:Oper) (ops l:List Oper) (ws:List W) (Q:Kt) (t:Nat->D) (h:Nat->Option Row) (e:Nat):Prop :=
 wpS d t g (fun t=>if want then mZ T Γ N F o ops l ws Q t h e else jl T Γ N F ops l ws Q (dU t o.dst .skp) h e) (fun t=>if want then jl T Γ N F ops l ws Q (dU t o.dst .skp) h e else mZ T Γ N F o ops l ws Q t h e) (fun t=>jl T Γ N F ops l ws Q (dU t o.dst .skp) h e)
def vu (d:D) (g:Nat) (want:Bool) (o:Oper) (ops l:List Oper) (ws:List W) (Q:Kt) (t:Nat->D) (h:Nat->Option Row) (e:Nat) (fs:List jg):Prop :=
 wpS d t g (fun t=>if want then nc T Γ N F o ops l ws Q t h e fs else j0 T Γ N F ops l ws Q (dU t o.dst .skp) h e (fs++[⟨[],true⟩])) (fun t=>if want then j0 T Γ N F ops l ws Q (dU t o.dst .skp) h e (fs++[⟨[],true⟩]) else nc T Γ N F o ops l ws Q t h e fs) (fun t=>j0 T Γ N F ops l ws Q (dU t o.dst .skp) h e (fs++[⟨[],true⟩]))
def EG (x y:Option bt) (dst:Option Nat) (ops l:List Oper) (ws:List W) (Q:Kt) (t:Nat->D) (h:Nat->Option Row) (e:Nat):Prop :=
 nY (ZY h x y) fun E=>jl T Γ N F ops l ws Q (dU t dst E.val) (aH h E.hw) e
def EI (x y:Option bt) (dst:Option Nat) (ft:List Nat) (ops l:List Oper) (ws:List W) (Q:Kt) (t:Nat->D) (h:Nat->Option Row) (e:Nat) (fs:List jg):Prop :=
 nY (ZY h x y) fun E=>j0 T Γ N F ops l ws Q (dU t dst E.val) (aH h E.hw) e (fs++[⟨ft,E.hw.isEmpty⟩])
def yp (x:Option bt) (dst:Option Nat) (ops l:List Oper) (ws:List W) (Q:Kt) (t:Nat->D) (h:Nat->Option Row) (e:Nat):Prop:=EG T Γ N F x none dst ops l ws Q t h e
def yr (x:Option bt) (dst:Option Nat) (ft:List Nat) (ops l:List Oper) (ws:List W) (Q:Kt) (t:Nat->D) (h:Nat->Option Row) (e:Nat) (fs:List jg):Prop:=EI T Γ N F x none dst ft ops l ws Q t h e fs
def FK (y:Option bt) (dst:Option Nat) (ops l:List Oper) (ws:List W) (Q:Kt) (t:Nat->D) (h:Nat->Option Row) (e:Nat):Prop :=
 nY y fun E=>jl T Γ N F ops l ws Q (dU t dst E.val) (aH h E.hw) e
def FL (y:Option bt) (dst:Option Nat) (ft:List Nat) (ops l:List Oper) (ws:List W) (Q:Kt) (t:Nat->D) (h:Nat->Option Row) (e:Nat) (fs:List jg):Prop :=
 nY y fun E=>j0 T Γ N F ops l ws Q (dU t dst E.val) (aH h E.hw) e (fs++[⟨ft,E.hw.isEmpty⟩])
def Ks (d:D) (g:Nat) (x y:Code) (ws:List W) (Q:Kt) (t:Nat->D) (h:Nat->Option Row) (e:Nat):Prop :=
 RE d t g (fun t=>cA T Γ N F (.code x::ws) Q .normal t h e) (fun t=>cA T Γ N F (.code y::ws) Q .normal t h e)
def Yt (d:D) (g:Nat) (a b:Operand) (dst:Option Nat) (ops l:List Oper) (ws:List W) (Q:Kt) (t:Nat->D) (h:Nat->Option Row) (e:Nat):Prop :=
 RE d t g (fun t=>jl T Γ N F ops l ws Q (dU t dst (ev t a)) h e) (fun t=>jl T Γ N F ops l ws Q (dU t dst (ev t b)) h e)
def Yu (d:D) (g:Nat) (a b:Operand) (dst:Option Nat) (ops l:List Oper) (ws:List W) (Q:Kt) (t:Nat->D) (h:Nat->Option Row) (e:Nat) (fs:List jg):Prop :=
 RE d t g (fun t=>j0 T Γ N F ops l ws Q (dU t dst (ev t a)) h e (fs++[⟨[],true⟩])) (fun t=>j0 T Γ N F ops l ws Q (dU t dst (ev t b)) h e (fs++[⟨[],true⟩]))
def TB (b:Code) (ws:List W) (Q:Kt) (t:Nat->D) (h:Nat->Option Row) (e:Nat):Prop:=Pu T Γ N F (.loop b) t h e (cA T Γ N F ws Q)
end
theorem Hv {n:Nat} (h:n<=1000000):n<=maxLen:=afx h (by decide)
theorem Ii {z:List D} : lA 0 z=[]:=ah6
theorem Ih {n:Nat} {z:List D} : lA (n+1) z=z++lA n z:=by simp[lA,List.replicate_succ]
theorem Hc {N:Nat} : fits N none=true:=ah6
theorem Hd {N i:Nat} : fits N (some i)=decide (i<N):=ah6
def sQ:List Oper->Nat->Nat
 | [],_=>0
 | o::_,0=>o.dst.getD 0
 | _::l,j+1=>sQ l j
def xD:List Oper->Nat->Bool
 | [],_=>false
 | o::_,0=>o.dst.isSome
 | _::l,j+1=>xD l j
theorem Cx:∀(l:List Oper) (j:Nat),xD l j=true->(l[j]?).bind (·.dst)=some (sQ l j)
 | [],j,h=>by simp[xD]at h
 | o::l,0,h=>by
  simp only[xD]at h
  simp only[List.getElem?_cons_zero,Option.bind_some,sQ]
  cases hd:o.dst with
  | none=>rw[hd]at h;cases h
  | some d=>rfl
 | o::l,j+1,h=>by simpa [sQ] using Cx l j h
theorem Cz {d:Nat} {op:Op} {ty:Nat} {pos:String} {af:Array Edge} {gd:Option (Nat×Bool)} {l:List Oper} : sQ (⟨some d,op,ty,pos,af,gd⟩::l) 0=d:=ah6
theorem Cy {o:Oper} {l:List Oper} {j:Nat} : sQ (o::l) (j+1)=sQ l j:=ah6
theorem Df {d:Nat} {op:Op} {ty:Nat} {pos:String} {af:Array Edge} {gd:Option (Nat×Bool)} {l:List Oper} : xD (⟨some d,op,ty,pos,af,gd⟩::l) 0=true:=ah6
theorem De {o:Oper} {l:List Oper} {j:Nat} : xD (o::l) (j+1)=xD l j:=ah6
section
variable {dst:Option Nat} {ty:Nat} {pos:String} {af:Array Edge} {gd:Option (Nat×Bool)} {vs:Operand->D}
def xR (vs:Operand->D):List Operand->List Nat
 | []=>[]
 | x::l=>nm (vs x)++xR vs l
theorem e9 (vs:Operand->D):∀l:List Operand,(l.flatMap fun x=>nm (vs x))=xR vs l
 | []=>Eq.trans rfl rfl
 | x::l=>by rw[List.flatMap_cons,e9 vs l];exact Eq.trans rfl rfl
theorem Tl:xR vs []=[]:=ah6
theorem NZ {x:Operand} {l:List Operand} : xR vs (x::l)=nm (vs x)++xR vs l:=ah6
theorem AR {o:BinOp} {tt z:Nat} {x y:Operand} : bl ⟨dst,.binOp o tt x y z,ty,pos,af,gd⟩ vs=(xR vs [x,y]++dst.toList).map rt:=by rw[<- e9];rfl
theorem EP {o:UnOp} {tt:Nat} {x:Operand} : bl ⟨dst,.unOp o tt x,ty,pos,af,gd⟩ vs=(xR vs [x]++dst.toList).map rt:=by rw[<- e9];rfl
theorem yt {x:Operand} : bl ⟨dst,.assign x,ty,pos,af,gd⟩ vs=(xR vs [x]++dst.toList).map rt:=by rw[<- e9];rfl
theorem EO {tt:Nat} {x:Operand} : bl ⟨dst,.load tt x,ty,pos,af,gd⟩ vs=(xR vs [x]++dst.toList).map rt:=by rw[<- e9];rfl
theorem AW {tt:Nat} {x y:Operand} : bl ⟨dst,.store tt x y,ty,pos,af,gd⟩ vs=(xR vs [x,y]++dst.toList).map rt:=by rw[<- e9];rfl
theorem tF {x:Operand} : bl ⟨dst,.nilCheck x,ty,pos,af,gd⟩ vs=(xR vs [x]++dst.toList).map rt:=by rw[<- e9];rfl
theorem sa {tt i:Nat} {x:Operand} : bl ⟨dst,.fieldAddr tt x i,ty,pos,af,gd⟩ vs=(xR vs [x]++dst.toList).map rt:=by rw[<- e9];rfl
theorem AT {tt i:Nat} {x:Operand} : bl ⟨dst,.field tt x i,ty,pos,af,gd⟩ vs=(xR vs [x]++dst.toList).map rt:=by rw[<- e9];rfl
theorem sb {tt:Nat} {x i:Operand} : bl ⟨dst,.indexAddr tt x i,ty,pos,af,gd⟩ vs=(xR vs [x,i]++dst.toList).map rt:=by rw[<- e9];rfl
theorem AU {tt:Nat} {x i:Operand} : bl ⟨dst,.index tt x i,ty,pos,af,gd⟩ vs=(xR vs [x,i]++dst.toList).map rt:=by rw[<- e9];rfl
theorem sc {tt:Nat} {x y:Operand} : bl ⟨dst,.makeSlice tt x y,ty,pos,af,gd⟩ vs=(xR vs [x,y]++dst.toList).map rt:=by rw[<- e9];rfl
theorem AQ {tt:Nat} : bl ⟨dst,.alloc tt,ty,pos,af,gd⟩ vs=(xR vs []++dst.toList).map rt:=by rw[<- e9];rfl
theorem IT {tt:Nat} {x:Operand} : bl ⟨dst,.box tt x,ty,pos,af,gd⟩ vs=(xR vs [x]++dst.toList).map rt:=by rw[<- e9];rfl
theorem vX {tt:Nat} : bl ⟨dst,.makeMap tt none,ty,pos,af,gd⟩ vs=(xR vs []++dst.toList).map rt:=by rw[<- e9];rfl
theorem yv {tt:Nat} {m i:Operand} {ok:Bool} : bl ⟨dst,.lookup tt m i ok,ty,pos,af,gd⟩ vs=(xR vs [m,i]++dst.toList).map rt:=by rw[<- e9];rfl
theorem sd {tt:Nat} {m i x:Operand} : bl ⟨dst,.mapUpdate tt m i x,ty,pos,af,gd⟩ vs=(xR vs [m,i,x]++dst.toList).map rt:=by rw[<- e9];rfl
theorem yu {tt:Nat} {m i x:Operand} : bl ⟨dst,.insert tt m i x,ty,pos,af,gd⟩ vs=(xR vs [m,i,x]++dst.toList).map rt:=by rw[<- e9];rfl
theorem vV {a b:Nat} {x:Operand} : bl ⟨dst,.convert a b x,ty,pos,af,gd⟩ vs=(xR vs [x]++dst.toList).map rt:=by rw[<- e9];rfl
theorem vW {x:Operand} {i:Nat} : bl ⟨dst,.extract x i,ty,pos,af,gd⟩ vs=(xR vs [x]++dst.toList).map rt:=by rw[<- e9];rfl
theorem AS {tt:Nat} {ps:List (Nat×Operand)} : bl ⟨dst,.build tt ps.toArray,ty,pos,af,gd⟩ vs=(xR vs (ps.map (·.2))++dst.toList).map rt:=by rw[<- e9];rfl
theorem p7 {tt len:Nat} {ps:List (Nat×Operand)} : bl ⟨dst,.buildSlice tt len ps.toArray,ty,pos,af,gd⟩ vs=(xR vs (ps.map (·.2))++dst.toList).map rt:=by rw[<- e9];rfl
theorem AV {tt:Nat} {x:Operand} {lo hi mx:Option Operand} : bl ⟨dst,.slice tt x lo hi mx,ty,pos,af,gd⟩ vs=(xR vs (x::(lo.toList++(hi.toList++mx.toList)))++dst.toList).map rt:=by
 rw[<- e9];cases lo<;>cases hi<;>cases mx<;>rfl
theorem EM {x:Operand} {l:List Operand} {tys:Array Nat} : bl ⟨dst,.call ⟨.value x,l.toArray,tys⟩,ty,pos,af,gd⟩ vs=(xR vs (x::l)++dst.toList).map rt:=by
 rw[<- e9];simp[bl,fG,Op.operands,Call.operands]
theorem vU {x:Builtin} {l:List Operand} {tys:Array Nat} : bl ⟨dst,.call ⟨.builtin x,l.toArray,tys⟩,ty,pos,af,gd⟩ vs=(xR vs l++dst.toList).map rt:=by
 rw[<- e9];simp[bl,fG,Op.operands,Call.operands]
end
section
variable {T:Nat->Option Ty} {ty e:Nat} {dst:Option Nat} {h:Nat->Option Row}
theorem R7 {k:IntKind} {n:Int} : bF T ty e dst h (.int k n)=some ⟨.int k n,[]⟩:=ah6
theorem KR {b:Bool} : bF T ty e dst h (.bool b)=some ⟨.bool b,[]⟩:=ah6
theorem Sb {b:ByteArray} : bF T ty e dst h (.str b)=some ⟨.str b,[]⟩:=ah6
theorem Wx {tg:Bool} {n:Nat} {xs:List D} : bF T ty e dst h (.sl false tg n xs)=some ⟨.sl false tg n xs,[]⟩:=ah6
theorem Sa {x v o:Nat} : bF T ty e dst h (.ptr x v o)=some ⟨.ptr x v o,[]⟩:=ah6
theorem Wu {xs:List D} : bF T ty e dst h (.ip xs)=some ⟨.ip xs,[]⟩:=ah6
theorem R5 {xs:List D} : bF T ty e dst h (.agg xs)=some ⟨.agg xs,[]⟩:=ah6
theorem Sc {xs:List D} : bF T ty e dst h (.tup xs)=some ⟨.tup xs,[]⟩:=ah6
theorem Wt {f:Nat} : bF T ty e dst h (.fn f)=some ⟨.fn f,[]⟩:=ah6
theorem Wv {x v:Nat} : bF T ty e dst h (.mp x v)=some ⟨.mp x v,[]⟩:=ah6
theorem R8 {ks:List bV} {vs:List D} : bF T ty e dst h (.mpc ks vs)=some ⟨.mpc ks vs,[]⟩:=ah6
theorem Ww {x v y:Nat} : bF T ty e dst h (.pm x v y)=some ⟨.pm x v y,[]⟩:=ah6
theorem Bq {f kk:Nat} {xs:List D} : bF T ty e dst h (.clo f kk xs)=some ⟨.clo f kk xs,[]⟩:=ah6
def abS (b:Bool) (T:Nat->Option Ty) (ty e d:Nat) (h:Nat->Option Row) (x:D):Option bt:=if b then bF T ty e (some d) h x else gu h x
theorem F4 {d:Nat} {x:D} : abS true T ty e d h x=bF T ty e (some d) h x:=ah6
theorem BW {d:Nat} {x:D} : abS false T ty e d h x=gu h x:=ah6
theorem aa2 {q:Nat->Bool} {d:Nat} {x:D} : pt T q ty e (some d) h x=abS (q d) T ty e d h x:=ah6
theorem R2 {k:IntKind} {n:Int} : gu h (.int k n)=some ⟨.int k n,[]⟩:=ah6
theorem KL {b:Bool} : gu h (.bool b)=some ⟨.bool b,[]⟩:=ah6
theorem R3 {b:ByteArray} : gu h (.str b)=some ⟨.str b,[]⟩:=ah6
theorem R0 {xs:List D} : gu h (.agg xs)=some ⟨.agg (xs.map canon),[]⟩:=ah6
theorem Wi {a b:Bool} {n:Nat} {xs:List D} : gu h (.sl a b n xs)=some ⟨.sl false false n xs,[]⟩:=ah6
theorem Sd:bF T ty e dst h .und=some ⟨.und,[]⟩:=ah6
def Z6 (e d y s o n:Nat) (r:Row):Bool->Option bt
 | true=>some ⟨.buf y r.v s o n,[]⟩
 | false=>some ⟨.buf d e s o n,[(y,none),(d,some { r with v:=e })]⟩
theorem BV {d y s o n:Nat} {r:Row} : Z6 e d y s o n r false=some ⟨.buf d e s o n,[(y,none),(d,some { r with v:=e })]⟩:=ah6
def abR (y v s o n:Nat):Option Row->Option bt
 | some _=>some ⟨.buf y v s o n,[]⟩
 | none=>some ⟨.und,[]⟩
theorem F0 {y v s o n:Nat} {r:Row} : abR y v s o n (some r)=some ⟨.buf y v s o n,[]⟩:=ah6
def Ws (e:Nat) (dst:Option Nat) (y s o n:Nat) (w:Option bt):Option Row->Option bt
 | some r=>match dst with|some d=>Z6 e d y s o n r r.fz|none=>w
 | none=>w
theorem F2 {d y s o n:Nat} {r:Row} {w:Option bt} : Ws e (some d) y s o n w (some r)=Z6 e d y s o n r r.fz:=ah6
theorem F1 {d y s o n:Nat} {w:Option bt} : Ws e (some d) y s o n w none=w:=ah6
theorem R6 {d y v s o n:Nat} : bF T ty e (some d) h (.buf y v s o n)=Ws e (some d) y s o n (abR y v s o n (ma h y v)) (live h y v):=by
 simp only[bF]
 cases hl:live h y v with
 | none=>simp only[Ws];cases ma h y v<;>simp[abR]
 | some r =>
  obtain⟨_,hv⟩:=bU hl
  simp only[Ws]
  cases hz:r.fz<;>simp[Z6,hv,hz]
def Z7 (e:Nat) (dst:Option Nat) (T:Nat->Option Ty):Option Ty->Option bt
 | some τ =>
  match dst with
  | some d=>match τ.ds with
   | .slice el=>match T el with|some φ=>some ⟨.buf d e φ.size 0 0,[(d,some ⟨e,el,[],false,true,false⟩)]⟩|none=>none
   | _=>none
  | none=>none
 | none=>none
theorem F3 {d el b c:Nat} {z:List Value} {q:Bool} {φ:Ty} (hφ:T el=some φ):Z7 e (some d) T (some ⟨.slice el,b,c,z,q⟩)=some ⟨.buf d e φ.size 0 0,[(d,some ⟨e,el,[],false,true,false⟩)]⟩:=by simp only[Z7,hφ]
theorem R9:bF T ty e dst h (.sl true true 0 [])=Z7 e dst T (T ty):=by
 unfold bF Z7
 cases dst<;>cases T ty<;>rfl
end
def okD (x:Option D):Option bt:=match x with|some d=>some ⟨d,[]⟩|none=>none
theorem Od (d:D):okD (some d)=some ⟨d,[]⟩:=ah6
def wC (x:Option Ty) (f:Ty->Option bt):Option bt:=match x with|some τ=>f τ|none=>none
theorem Ot (τ:Ty) (f:Ty->Option bt):wC (some τ) f=f τ:=ah6
def abT (x:Option (List D×List Nat)) (h:Nat->Option Row) (ty d e:Nat):Option bt :=
 match x with
 | some (cs,fr)=>if fr.contains d=false then some ⟨.ptr d e 0,gG h fr++[(d,some ⟨e,ty,cs,false,false,false⟩)]⟩ else none
 | none=>none
theorem F8 (cs:List D) (fr:List Nat) (h:Nat->Option Row) (ty d e:Nat):abT (some (cs,fr)) h ty d e=if fr.contains d=false then some ⟨.ptr d e 0,gG h fr++[(d,some ⟨e,ty,cs,false,false,false⟩)]⟩ else none:=ah6
def aaC (d e:Nat):Option Nat->D
 | some y =>.pm d e y
 | none =>.ptr d e 0
theorem H2 {d e y:Nat} : aaC d e (some y)=.pm d e y:=ah6
theorem H0 {d e:Nat} : aaC d e none=.ptr d e 0:=ah6
def BT (x:Option Ty) (ty d e:Nat) (y:Option Nat):Option bt :=
 match x with
 | some τ=>if (τ.zero.map kW).all aS then some ⟨aaC d e y,[(d,some ⟨e,ty,τ.zero.map kW,false,false,false⟩)]⟩ else none
 | none=>none
theorem zw (τ:Ty) (ty d e:Nat) (y:Option Nat):BT (some τ) ty d e y=if (τ.zero.map kW).all aS then some ⟨aaC d e y,[(d,some ⟨e,ty,τ.zero.map kW,false,false,false⟩)]⟩ else none:=ah6
def Vy (T:Nat->Option Ty) (x:Option Ty) (ty e d:Nat):Option bt:=match x with|some τ=>ln T ty τ e d|none=>none
theorem X8 {T:Nat->Option Ty} {τ φ:Ty} {b:Bool} {ty e d:Nat} (hm:DD T τ=some (b,φ)) (hty:ty<900000):Vy T (some τ) ty e d=some ⟨.mp d e,[(d,some ⟨e,ty,[.mpc [] []],false,true,true⟩)]⟩:=by simp only[Vy,ln,hm];rw[if_neg (by omega)]
def WV (x y:Option Ty) (d:D):Option bt :=
 match x,y,d with
 | some τ,some _,.int _ n=>(match τ.ds with | .int k=>some ⟨.int k (k.wrap n),[]⟩|_=>none)
 | _,_,_=>none
theorem Gv (k:IntKind) (b c:Nat) (z:List Value) (q:Bool) (σ:Ty) (k':IntKind) (n:Int):WV (some ⟨.int k,b,c,z,q⟩) (some σ) (.int k' n)=some ⟨.int k (k.wrap n),[]⟩:=ah6
def aak (d:D) (i:Nat):Option bt:=match d with | .tup xs=>(match xs[i]? with|some d=>some ⟨d,[]⟩|none=>none)|_=>none
theorem Mf (xs:List D) (i:Nat):aak (.tup xs) i=okD xs[i]?:=by simp only[aak,okD]
section
variable {T:Nat->Option Ty} {Γ:Env} {N F e:Nat} {ws:List W} {Q:Kt} {t:Nat->D} {h:Nat->Option Row}
theorem cr {x:Ex} : cA T Γ N F [] Q x t h e=Q x t h e:=ah6
theorem Is:cA T Γ N F (.code .skip::ws) Q .normal t h e=cA T Γ N F ws Q .normal t h e:=ah6
theorem OM {a b:Code} : cA T Γ N F (.code (.seq a b)::ws) Q .normal t h e=cA T Γ N F (.code a :: .code b::ws) Q .normal t h e:=ah6
theorem OL:cA T Γ N F (.code .ret::ws) Q .normal t h e=cA T Γ N F ws Q .ret t h e:=ah6
theorem Iq {id:Nat} : cA T Γ N F (.code (.exit id)::ws) Q .normal t h e=cA T Γ N F ws Q (.exit id) t h e:=ah6
theorem EB {id:Nat} {b:Code} : cA T Γ N F (.code (.block id b)::ws) Q .normal t h e=cA T Γ N F (.code b :: .blk id::ws) Q .normal t h e:=ah6
theorem Ir {b:Code} : cA T Γ N F (.code (.loop b)::ws) Q .normal t h e=TB T Γ N F b ws Q t h e:=ah6
theorem a7 {c:Code} : cA T Γ N F (.code c::ws) Q .ret t h e=cA T Γ N F ws Q .ret t h e:=ah6
theorem kS {c:Code} {n:Nat} : cA T Γ N F (.code c::ws) Q (.exit n) t h e=cA T Γ N F ws Q (.exit n) t h e:=ah6
theorem rY {id:Nat} : cA T Γ N F (.blk id::ws) Q .normal t h e=cA T Γ N F ws Q .normal t h e:=ah6
theorem bh {id:Nat} : cA T Γ N F (.blk id::ws) Q .ret t h e=cA T Γ N F ws Q .ret t h e:=ah6
theorem vS {id n:Nat} : cA T Γ N F (.blk id::ws) Q (.exit n) t h e=if n=id then cA T Γ N F ws Q .normal t h e else cA T Γ N F ws Q (.exit n) t h e:=ah6
theorem AN {i:Nat} {ops:List Oper} : cA T Γ N F (.code (.region i ops.toArray false)::ws) Q .normal t h e=jl T Γ N F ops ops ws Q t h e:=ah6
theorem EE {i:Nat} {ops:List Oper} : cA T Γ N F (.code (.region i ops.toArray true)::ws) Q .normal t h e=j0 T Γ N F ops ops ws Q t h e []:=ah6
theorem Ip {g:Nat} {x y:Code} : cA T Γ N F (.code (.cond (.tmp g) x y)::ws) Q .normal t h e=Ks T Γ N F (t g) g x y ws Q t h e:=ah6
theorem ED {x y:Code} : cA T Γ N F (.code (.cond (.const (.bool true)) x y)::ws) Q .normal t h e=cA T Γ N F (.code x::ws) Q .normal t h e:=ah6
theorem EC {x y:Code} : cA T Γ N F (.code (.cond (.const (.bool false)) x y)::ws) Q .normal t h e=cA T Γ N F (.code y::ws) Q .normal t h e:=ah6
theorem IU {g:Nat} {x y:Code} (hg:t g=.bool true):Ks T Γ N F (.bool true) g x y ws Q t h e=cA T Γ N F (.code x::ws) Q .normal t h e:=yy hg
theorem ER {g:Nat} {x y:Code} (hg:t g=.bool false):Ks T Γ N F (.bool false) g x y ws Q t h e=cA T Γ N F (.code y::ws) Q .normal t h e:=vg hg
theorem VS {b:Bool} {g:Nat} {x y:Code} : Ks T Γ N F (.bool b) g x y ws Q t h e=br b (cA T Γ N F (.code x::ws) Q .normal (bz t g (.bool true)) h e) (cA T Γ N F (.code y::ws) Q .normal (bz t g (.bool false)) h e):=by
 unfold Ks;rw[ZS];cases b<;>simp[br]
variable {ops l:List Oper} {dst:Option Nat} {op:Op} {ty:Nat} {pos:String} {af:Array Edge} {gd:Option (Nat×Bool)} {fs:List jg}
theorem OJ:jl T Γ N F ops [] ws Q t h e=cA T Γ N F ws Q .normal t h (e+1):=ah6
theorem Im (hf:fits N dst=true):jl T Γ N F ops (⟨dst,op,ty,pos,af,none⟩::l) ws Q t h e=mZ T Γ N F ⟨dst,op,ty,pos,af,none⟩ ops l ws Q t h e:=by
 simp only[jl,EA,ZU,hf,true_and,mZ]
theorem Ey {j:Nat} {want:Bool} (hf:fits N dst=true) (hj:xD ops j=true):jl T Γ N F ops (⟨dst,op,ty,pos,af,some (j,want)⟩::l) ws Q t h e=vt T Γ N F (t (sQ ops j)) (sQ ops j) want ⟨dst,op,ty,pos,af,none⟩ ops l ws Q t h e:=by
 simp only[jl,EA,ZU,hf,true_and,Cx ops j hj,rj,vt]
 cases want<;>rfl
theorem Ph {g:Nat} {want:Bool} {o:Oper} : vt T Γ N F .skp g want o ops l ws Q t h e=jl T Γ N F ops l ws Q (dU t o.dst .skp) h e:=ah6
theorem IV {g:Nat} {o:Oper} (hg:t g=.bool true):vt T Γ N F (.bool true) g true o ops l ws Q t h e=mZ T Γ N F o ops l ws Q t h e:=(yB hg).trans (if_pos rfl)
theorem ES {g:Nat} {o:Oper} (hg:t g=.bool false):vt T Γ N F (.bool false) g true o ops l ws Q t h e=jl T Γ N F ops l ws Q (dU t o.dst .skp) h e:=(vk hg).trans (if_pos rfl)
theorem ET {g:Nat} {o:Oper} (hg:t g=.bool true):vt T Γ N F (.bool true) g false o ops l ws Q t h e=jl T Γ N F ops l ws Q (dU t o.dst .skp) h e:=(yB hg).trans (if_neg (by decide))
theorem AX {g:Nat} {o:Oper} (hg:t g=.bool false):vt T Γ N F (.bool false) g false o ops l ws Q t h e=mZ T Γ N F o ops l ws Q t h e:=(vk hg).trans (if_neg (by decide))
theorem VT {b:Bool} {g:Nat} {o:Oper} : vt T Γ N F (.bool b) g true o ops l ws Q t h e=br b (mZ T Γ N F o ops l ws Q (bz t g (.bool true)) h e) (jl T Γ N F ops l ws Q (dU (bz t g (.bool false)) o.dst .skp) h e):=by
 unfold vt;rw[yA];cases b<;>simp[br]
theorem Ru {b:Bool} {g:Nat} {o:Oper} : vt T Γ N F (.bool b) g false o ops l ws Q t h e=br b (jl T Γ N F ops l ws Q (dU (bz t g (.bool true)) o.dst .skp) h e) (mZ T Γ N F o ops l ws Q (bz t g (.bool false)) h e):=by
 unfold vt;rw[yA];cases b<;>simp[br]
theorem OK:j0 T Γ N F ops [] ws Q t h e fs=(CB ops.toArray fs=true∧cA T Γ N F ws Q .normal t h (e+1)):=ah6
theorem Io (hf:fits N dst=true):j0 T Γ N F ops (⟨dst,op,ty,pos,af,none⟩::l) ws Q t h e fs=nc T Γ N F ⟨dst,op,ty,pos,af,none⟩ ops l ws Q t h e fs:=by
 simp only[j0,runK,ZU,hf,true_and,nc]
theorem Ez {j:Nat} {want:Bool} (hf:fits N dst=true) (hj:xD ops j=true):j0 T Γ N F ops (⟨dst,op,ty,pos,af,some (j,want)⟩::l) ws Q t h e fs=vu T Γ N F (t (sQ ops j)) (sQ ops j) want ⟨dst,op,ty,pos,af,none⟩ ops l ws Q t h e fs:=by
 simp only[j0,runK,ZU,hf,true_and,Cx ops j hj,rj,vu]
 cases want<;>rfl
theorem Pj {g:Nat} {want:Bool} {o:Oper} : vu T Γ N F .skp g want o ops l ws Q t h e fs=j0 T Γ N F ops l ws Q (dU t o.dst .skp) h e (fs++[⟨[],true⟩]):=ah6
theorem IW {g:Nat} {o:Oper} (hg:t g=.bool true):vu T Γ N F (.bool true) g true o ops l ws Q t h e fs=nc T Γ N F o ops l ws Q t h e fs:=(yB hg).trans (if_pos rfl)
theorem EU {g:Nat} {o:Oper} (hg:t g=.bool false):vu T Γ N F (.bool false) g true o ops l ws Q t h e fs=j0 T Γ N F ops l ws Q (dU t o.dst .skp) h e (fs++[⟨[],true⟩]):=(vk hg).trans (if_pos rfl)
theorem EV {g:Nat} {o:Oper} (hg:t g=.bool true):vu T Γ N F (.bool true) g false o ops l ws Q t h e fs=j0 T Γ N F ops l ws Q (dU t o.dst .skp) h e (fs++[⟨[],true⟩]):=(yB hg).trans (if_neg (by decide))
theorem AY {g:Nat} {o:Oper} (hg:t g=.bool false):vu T Γ N F (.bool false) g false o ops l ws Q t h e fs=nc T Γ N F o ops l ws Q t h e fs:=(vk hg).trans (if_neg (by decide))
theorem VU {b:Bool} {g:Nat} {o:Oper} : vu T Γ N F (.bool b) g true o ops l ws Q t h e fs=br b (nc T Γ N F o ops l ws Q (bz t g (.bool true)) h e fs) (j0 T Γ N F ops l ws Q (dU (bz t g (.bool false)) o.dst .skp) h e (fs++[⟨[],true⟩])):=by
 unfold vu;rw[yA];cases b<;>simp[br]
theorem Rv {b:Bool} {g:Nat} {o:Oper} : vu T Γ N F (.bool b) g false o ops l ws Q t h e fs=br b (j0 T Γ N F ops l ws Q (dU (bz t g (.bool true)) o.dst .skp) h e (fs++[⟨[],true⟩])) (nc T Γ N F o ops l ws Q (bz t g (.bool false)) h e fs):=by
 unfold vu;rw[yA];cases b<;>simp[br]
theorem O1 {d:D} {hw:List (Nat×Option Row)} : yp T Γ N F (some ⟨d,hw⟩) dst ops l ws Q t h e=jl T Γ N F ops l ws Q (dU t dst d) (aH h (je h hw)) e:=ah6
theorem O9 {d:D} {hw:List (Nat×Option Row)} {ft:List Nat} : yr T Γ N F (some ⟨d,hw⟩) dst ft ops l ws Q t h e fs=j0 T Γ N F ops l ws Q (dU t dst d) (aH h (je h hw)) e (fs++[⟨ft,(je h hw).isEmpty⟩]):=ah6
theorem TI {c:Prop} [Decidable c] {E:bt} : yp T Γ N F (if c then some E else none) dst ops l ws Q t h e=(c∧yp T Γ N F (some E) dst ops l ws Q t h e):=by
 by_cases hc:c<;>simp[hc,yp,EG,ZY,nY]
theorem TN {c:Prop} [Decidable c] {E:bt} {ft:List Nat} : yr T Γ N F (if c then some E else none) dst ft ops l ws Q t h e fs=(c∧yr T Γ N F (some E) dst ft ops l ws Q t h e fs):=by
 by_cases hc:c<;>simp[hc,yr,EI,ZY,nY]
theorem IB {E:bt} {y:Option bt} : EG T Γ N F (some E) y dst ops l ws Q t h e=yp T Γ N F (some E) dst ops l ws Q t h e:=ah6
theorem IL {E:bt} {y:Option bt} {ft:List Nat} : EI T Γ N F (some E) y dst ft ops l ws Q t h e fs=yr T Γ N F (some E) dst ft ops l ws Q t h e fs:=ah6
theorem IA {y:Option bt} : EG T Γ N F none y dst ops l ws Q t h e=FK T Γ N F y dst ops l ws Q t h e:=ah6
theorem IK {y:Option bt} {ft:List Nat} : EI T Γ N F none y dst ft ops l ws Q t h e fs=FL T Γ N F y dst ft ops l ws Q t h e fs:=ah6
theorem TH {x:Option bt} : EG T Γ N F x none dst ops l ws Q t h e=yp T Γ N F x dst ops l ws Q t h e:=ah6
theorem TM {x:Option bt} {ft:List Nat} : EI T Γ N F x none dst ft ops l ws Q t h e fs=yr T Γ N F x dst ft ops l ws Q t h e fs:=ah6
theorem IC {d:D} {hw:List (Nat×Option Row)} : FK T Γ N F (some ⟨d,hw⟩) dst ops l ws Q t h e=jl T Γ N F ops l ws Q (dU t dst d) (aH h hw) e:=ah6
theorem IM {d:D} {hw:List (Nat×Option Row)} {ft:List Nat} : FL T Γ N F (some ⟨d,hw⟩) dst ft ops l ws Q t h e fs=j0 T Γ N F ops l ws Q (dU t dst d) (aH h hw) e (fs++[⟨ft,hw.isEmpty⟩]):=ah6
theorem O0 {c:Prop} [Decidable c] {E:bt} : FK T Γ N F (if c then some E else none) dst ops l ws Q t h e=(c∧FK T Γ N F (some E) dst ops l ws Q t h e):=by
 by_cases hc:c<;>simp[hc,FK,nY]
theorem O8 {c:Prop} [Decidable c] {E:bt} {ft:List Nat} : FL T Γ N F (if c then some E else none) dst ft ops l ws Q t h e fs=(c∧FL T Γ N F (some E) dst ft ops l ws Q t h e fs):=by
 by_cases hc:c<;>simp[hc,FL,nY]
theorem Ed {g:Nat} {a b:Operand} (hg:t g=.bool true):Yt T Γ N F (.bool true) g a b dst ops l ws Q t h e=jl T Γ N F ops l ws Q (dU t dst (ev t a)) h e:=yy hg
theorem Ay {g:Nat} {a b:Operand} (hg:t g=.bool false):Yt T Γ N F (.bool false) g a b dst ops l ws Q t h e=jl T Γ N F ops l ws Q (dU t dst (ev t b)) h e:=vg hg
theorem Ee {g:Nat} {a b:Operand} (hg:t g=.bool true):Yu T Γ N F (.bool true) g a b dst ops l ws Q t h e fs=j0 T Γ N F ops l ws Q (dU t dst (ev t a)) h e (fs++[⟨[],true⟩]):=yy hg
theorem Az {g:Nat} {a b:Operand} (hg:t g=.bool false):Yu T Γ N F (.bool false) g a b dst ops l ws Q t h e fs=j0 T Γ N F ops l ws Q (dU t dst (ev t b)) h e (fs++[⟨[],true⟩]):=vg hg
theorem LJ {c:Nat} {a b:Operand} : mZ T Γ N F ⟨dst,.pick (.tmp c) a b,ty,pos,af,gd⟩ ops l ws Q t h e=Yt T Γ N F (t c) c a b dst ops l ws Q t h e:=ah6
theorem LR {c:Nat} {a b:Operand} : nc T Γ N F ⟨dst,.pick (.tmp c) a b,ty,pos,af,gd⟩ ops l ws Q t h e fs=Yu T Γ N F (t c) c a b dst ops l ws Q t h e fs:=ah6
theorem xc {x y:Option bt} (hp:∀c a b,op ≠ .pick c a b) (hm:fM T Γ e ⟨dst,op,ty,pos,af,gd⟩ (ev t)=none) (hcf:k9 Γ e h dst (fZ (ev t) op)=none) (hx:kZ T Γ e ⟨dst,op,ty,pos,af,gd⟩ (ev t) (EH h)=x) (hy:sV T Γ e ⟨dst,op,ty,pos,af,gd⟩ (ev t) h=y):mZ T Γ N F ⟨dst,op,ty,pos,af,gd⟩ ops l ws Q t h e=EG T Γ N F x y dst ops l ws Q t h e:=by
 subst hx
 subst hy
 unfold mZ EG Ps mM
 rw[hm]
 simp only
 rw[hcf]
 cases op<;>first|rfl|exact absurd rfl (hp _ _ _)
theorem xf {x y:Option bt} (hp:∀c a b,op ≠ .pick c a b) (hm:fM T Γ e ⟨dst,op,ty,pos,af,gd⟩ (ev t)=none) (hcf:k9 Γ e h dst (fZ (ev t) op)=none) (hx:kZ T Γ e ⟨dst,op,ty,pos,af,gd⟩ (ev t) (EH h)=x) (hy:sV T Γ e ⟨dst,op,ty,pos,af,gd⟩ (ev t) h=y):nc T Γ N F ⟨dst,op,ty,pos,af,gd⟩ ops l ws Q t h e fs=EI T Γ N F x y dst (bl ⟨dst,op,ty,pos,af,gd⟩ (ev t)) ops l ws Q t h e fs:=by
 subst hx
 subst hy
 unfold nc EI Ps mM
 rw[hm]
 simp only
 rw[hcf]
 cases op<;>first|rfl|exact absurd rfl (hp _ _ _)
theorem dZ {x:Option bt} (hp:∀c a b,op ≠ .pick c a b) (hx:kZ T Γ e ⟨dst,op,ty,pos,af,gd⟩ (ev t) (EH h)=x) (hm:fM T Γ e ⟨dst,op,ty,pos,af,gd⟩ (ev t)=none:=by rfl) (hy:sV T Γ e ⟨dst,op,ty,pos,af,gd⟩ (ev t) h=none:=by rfl) (hcf:k9 Γ e h dst (fZ (ev t) op)=none:=by first|rfl|(cases dst<;>rfl)):mZ T Γ N F ⟨dst,op,ty,pos,af,gd⟩ ops l ws Q t h e=yp T Γ N F x dst ops l ws Q t h e:=xc hp hm hcf hx hy
theorem ec {x:Option bt} (hp:∀c a b,op ≠ .pick c a b) (hx:kZ T Γ e ⟨dst,op,ty,pos,af,gd⟩ (ev t) (EH h)=x) (hm:fM T Γ e ⟨dst,op,ty,pos,af,gd⟩ (ev t)=none:=by rfl) (hy:sV T Γ e ⟨dst,op,ty,pos,af,gd⟩ (ev t) h=none:=by rfl) (hcf:k9 Γ e h dst (fZ (ev t) op)=none:=by first|rfl|(cases dst<;>rfl)):nc T Γ N F ⟨dst,op,ty,pos,af,gd⟩ ops l ws Q t h e fs=yr T Γ N F x dst (bl ⟨dst,op,ty,pos,af,gd⟩ (ev t)) ops l ws Q t h e fs:=xf hp hm hcf hx hy
theorem LI {x:Operand} : mZ T Γ N F ⟨dst,.move x,ty,pos,af,gd⟩ ops l ws Q t h e=jl T Γ N F ops l ws Q (dU t dst (ev t x)) h e:=(dZ (fun _ _ _ hh=>by cases hh) rfl).trans rfl
theorem LQ {x:Operand} : nc T Γ N F ⟨dst,.move x,ty,pos,af,gd⟩ ops l ws Q t h e fs=j0 T Γ N F ops l ws Q (dU t dst (ev t x)) h e (fs++[⟨[],true⟩]):=(ec (fun _ _ _ hh=>by cases hh) rfl).trans rfl
theorem Gz {o:BinOp} {tt z:Nat} {x y:Operand} : mZ T Γ N F ⟨dst,.binOp o tt x y z,ty,pos,af,gd⟩ ops l ws Q t h e=yp T Γ N F (okD (yR T tt o (ev t x) (ev t y))) dst ops l ws Q t h e:=dZ (fun _ _ _ hh=>by cases hh) (by simp only[kZ];first|rfl|(cases yR T tt o (ev t x) (ev t y)<;>rfl))
theorem GI {o:BinOp} {tt z:Nat} {x y:Operand} : nc T Γ N F ⟨dst,.binOp o tt x y z,ty,pos,af,gd⟩ ops l ws Q t h e fs=yr T Γ N F (okD (yR T tt o (ev t x) (ev t y))) dst (bl ⟨dst,.binOp o tt x y z,ty,pos,af,gd⟩ (ev t)) ops l ws Q t h e fs:=ec (fun _ _ _ hh=>by cases hh) (by simp only[kZ];first|rfl|(cases yR T tt o (ev t x) (ev t y)<;>rfl))
theorem LM {o:UnOp} {tt:Nat} {x:Operand} : mZ T Γ N F ⟨dst,.unOp o tt x,ty,pos,af,gd⟩ ops l ws Q t h e=yp T Γ N F (okD (FN o (ev t x))) dst ops l ws Q t h e:=dZ (fun _ _ _ hh=>by cases hh) (by simp only[kZ];first|rfl|(cases FN o (ev t x)<;>rfl))
theorem LS {o:UnOp} {tt:Nat} {x:Operand} : nc T Γ N F ⟨dst,.unOp o tt x,ty,pos,af,gd⟩ ops l ws Q t h e fs=yr T Γ N F (okD (FN o (ev t x))) dst (bl ⟨dst,.unOp o tt x,ty,pos,af,gd⟩ (ev t)) ops l ws Q t h e fs:=ec (fun _ _ _ hh=>by cases hh) (by simp only[kZ];first|rfl|(cases FN o (ev t x)<;>rfl))
theorem Cn {x:Operand} : mZ T Γ N F ⟨dst,.assign x,ty,pos,af,gd⟩ ops l ws Q t h e=yp T Γ N F (pt T Γ.own ty e dst (EH h) (ev t x)) dst ops l ws Q t h e:=dZ (fun _ _ _ hh=>by cases hh) rfl
theorem Cq {x:Operand} : nc T Γ N F ⟨dst,.assign x,ty,pos,af,gd⟩ ops l ws Q t h e fs=yr T Γ N F (pt T Γ.own ty e dst (EH h) (ev t x)) dst (bl ⟨dst,.assign x,ty,pos,af,gd⟩ (ev t)) ops l ws Q t h e fs:=ec (fun _ _ _ hh=>by cases hh) rfl
theorem xd {f:Nat} {first caps:List Operand} : mZ T Γ N F ⟨dst,.makeFunc (.func f) first.toArray caps.toArray,ty,pos,af,gd⟩ ops l ws Q t h e=yp T Γ N F (if (first.map (ev t)++caps.map (ev t)).all im then some ⟨.clo f first.length (first.map (ev t)++caps.map (ev t)),[]⟩ else none) dst ops l ws Q t h e:=dZ (fun _ _ _ hh=>by cases hh) rfl
theorem xg {f:Nat} {first caps:List Operand} : nc T Γ N F ⟨dst,.makeFunc (.func f) first.toArray caps.toArray,ty,pos,af,gd⟩ ops l ws Q t h e fs=yr T Γ N F (if (first.map (ev t)++caps.map (ev t)).all im then some ⟨.clo f first.length (first.map (ev t)++caps.map (ev t)),[]⟩ else none) dst (bl ⟨dst,.makeFunc (.func f) first.toArray caps.toArray,ty,pos,af,gd⟩ (ev t)) ops l ws Q t h e fs:=ec (fun _ _ _ hh=>by cases hh) rfl
theorem LG {tt:Nat} {x:Operand} : mZ T Γ N F ⟨dst,.load tt x,ty,pos,af,gd⟩ ops l ws Q t h e=EG T Γ N F (wC (T tt) fun τ=>lY τ (EH h) (ev t x)) (wC (T tt) fun τ=>sU τ h (ev t x)) dst ops l ws Q t h e:=xc (fun _ _ _ hh=>by cases hh) rfl (by cases dst<;>rfl) (by simp only[kZ];first|rfl|(cases T tt<;>rfl)) (by simp only[sV];first|rfl|(cases T tt<;>rfl))
theorem LO {tt:Nat} {x:Operand} : nc T Γ N F ⟨dst,.load tt x,ty,pos,af,gd⟩ ops l ws Q t h e fs=EI T Γ N F (wC (T tt) fun τ=>lY τ (EH h) (ev t x)) (wC (T tt) fun τ=>sU τ h (ev t x)) dst (bl ⟨dst,.load tt x,ty,pos,af,gd⟩ (ev t)) ops l ws Q t h e fs:=xf (fun _ _ _ hh=>by cases hh) rfl (by cases dst<;>rfl) (by simp only[kZ];first|rfl|(cases T tt<;>rfl)) (by simp only[sV];first|rfl|(cases T tt<;>rfl))
theorem GG {tt:Nat} {x y:Operand} : mZ T Γ N F ⟨dst,.store tt x y,ty,pos,af,gd⟩ ops l ws Q t h e=EG T Γ N F (wC (T tt) fun τ=>cJ τ (EH h) (ev t x) (ev t y)) (wC (T tt) fun τ=>sW τ e h (ev t x) (ev t y)) dst ops l ws Q t h e:=xc (fun _ _ _ hh=>by cases hh) rfl (by cases dst<;>rfl) (by simp only[kZ];first|rfl|(cases T tt<;>rfl)) (by simp only[sV];first|rfl|(cases T tt<;>rfl))
theorem GO {tt:Nat} {x y:Operand} : nc T Γ N F ⟨dst,.store tt x y,ty,pos,af,gd⟩ ops l ws Q t h e fs=EI T Γ N F (wC (T tt) fun τ=>cJ τ (EH h) (ev t x) (ev t y)) (wC (T tt) fun τ=>sW τ e h (ev t x) (ev t y)) dst (bl ⟨dst,.store tt x y,ty,pos,af,gd⟩ (ev t)) ops l ws Q t h e fs:=xf (fun _ _ _ hh=>by cases hh) rfl (by cases dst<;>rfl) (by simp only[kZ];first|rfl|(cases T tt<;>rfl)) (by simp only[sV];first|rfl|(cases T tt<;>rfl))
theorem xe {x:Operand} : mZ T Γ N F ⟨dst,.nilCheck x,ty,pos,af,gd⟩ ops l ws Q t h e=yp T Γ N F (iw (EH h) (ev t x)) dst ops l ws Q t h e:=dZ (fun _ _ _ hh=>by cases hh) rfl
theorem xh {x:Operand} : nc T Γ N F ⟨dst,.nilCheck x,ty,pos,af,gd⟩ ops l ws Q t h e fs=yr T Γ N F (iw (EH h) (ev t x)) dst (bl ⟨dst,.nilCheck x,ty,pos,af,gd⟩ (ev t)) ops l ws Q t h e fs:=ec (fun _ _ _ hh=>by cases hh) rfl
theorem vv {tt i:Nat} {x:Operand} : mZ T Γ N F ⟨dst,.fieldAddr tt x i,ty,pos,af,gd⟩ ops l ws Q t h e=yp T Γ N F (wC (T tt) fun τ=>dC T τ (EH h) i (ev t x)) dst ops l ws Q t h e:=dZ (fun _ _ _ hh=>by cases hh) (by simp only[kZ];first|rfl|(cases T tt<;>rfl))
theorem vB {tt i:Nat} {x:Operand} : nc T Γ N F ⟨dst,.fieldAddr tt x i,ty,pos,af,gd⟩ ops l ws Q t h e fs=yr T Γ N F (wC (T tt) fun τ=>dC T τ (EH h) i (ev t x)) dst (bl ⟨dst,.fieldAddr tt x i,ty,pos,af,gd⟩ (ev t)) ops l ws Q t h e fs:=ec (fun _ _ _ hh=>by cases hh) (by simp only[kZ];first|rfl|(cases T tt<;>rfl))
theorem GB {tt i:Nat} {x:Operand} : mZ T Γ N F ⟨dst,.field tt x i,ty,pos,af,gd⟩ ops l ws Q t h e=yp T Γ N F (wC (T tt) fun τ=>kE T τ i (ev t x)) dst ops l ws Q t h e:=dZ (fun _ _ _ hh=>by cases hh) (by simp only[kZ];first|rfl|(cases T tt<;>rfl))
theorem GK {tt i:Nat} {x:Operand} : nc T Γ N F ⟨dst,.field tt x i,ty,pos,af,gd⟩ ops l ws Q t h e fs=yr T Γ N F (wC (T tt) fun τ=>kE T τ i (ev t x)) dst (bl ⟨dst,.field tt x i,ty,pos,af,gd⟩ (ev t)) ops l ws Q t h e fs:=ec (fun _ _ _ hh=>by cases hh) (by simp only[kZ];first|rfl|(cases T tt<;>rfl))
theorem vw {tt:Nat} {x i:Operand} : mZ T Γ N F ⟨dst,.indexAddr tt x i,ty,pos,af,gd⟩ ops l ws Q t h e=yp T Γ N F (wC (T tt) fun τ=>bD T τ (EH h) (ev t x) (ev t i)) dst ops l ws Q t h e:=dZ (fun _ _ _ hh=>by cases hh) (by simp only[kZ];first|rfl|(cases T tt<;>rfl))
theorem vC {tt:Nat} {x i:Operand} : nc T Γ N F ⟨dst,.indexAddr tt x i,ty,pos,af,gd⟩ ops l ws Q t h e fs=yr T Γ N F (wC (T tt) fun τ=>bD T τ (EH h) (ev t x) (ev t i)) dst (bl ⟨dst,.indexAddr tt x i,ty,pos,af,gd⟩ (ev t)) ops l ws Q t h e fs:=ec (fun _ _ _ hh=>by cases hh) (by simp only[kZ];first|rfl|(cases T tt<;>rfl))
theorem GC {tt:Nat} {x i:Operand} : mZ T Γ N F ⟨dst,.index tt x i,ty,pos,af,gd⟩ ops l ws Q t h e=yp T Γ N F (wC (T tt) fun τ=>fB T τ (ev t x) (ev t i)) dst ops l ws Q t h e:=dZ (fun _ _ _ hh=>by cases hh) (by simp only[kZ];first|rfl|(cases T tt<;>rfl))
theorem GL {tt:Nat} {x i:Operand} : nc T Γ N F ⟨dst,.index tt x i,ty,pos,af,gd⟩ ops l ws Q t h e fs=yr T Γ N F (wC (T tt) fun τ=>fB T τ (ev t x) (ev t i)) dst (bl ⟨dst,.index tt x i,ty,pos,af,gd⟩ (ev t)) ops l ws Q t h e fs:=ec (fun _ _ _ hh=>by cases hh) (by simp only[kZ];first|rfl|(cases T tt<;>rfl))
theorem GD {tt:Nat} {x:Operand} {lo hi mx:Option Operand} : mZ T Γ N F ⟨dst,.slice tt x lo hi mx,ty,pos,af,gd⟩ ops l ws Q t h e=yp T Γ N F (wC (T tt) fun τ=>cu T τ (EH h) (ev t x) (lo.map (ev t)) (hi.map (ev t)) (mx.map (ev t))) dst ops l ws Q t h e:=dZ (fun _ _ _ hh=>by cases hh) (by simp only[kZ];first|rfl|(cases T tt<;>rfl))
theorem GM {tt:Nat} {x:Operand} {lo hi mx:Option Operand} : nc T Γ N F ⟨dst,.slice tt x lo hi mx,ty,pos,af,gd⟩ ops l ws Q t h e fs=yr T Γ N F (wC (T tt) fun τ=>cu T τ (EH h) (ev t x) (lo.map (ev t)) (hi.map (ev t)) (mx.map (ev t))) dst (bl ⟨dst,.slice tt x lo hi mx,ty,pos,af,gd⟩ (ev t)) ops l ws Q t h e fs:=ec (fun _ _ _ hh=>by cases hh) (by simp only[kZ];first|rfl|(cases T tt<;>rfl))
theorem GA {tt:Nat} {ps:List (Nat×Operand)} : mZ T Γ N F ⟨dst,.build tt ps.toArray,ty,pos,af,gd⟩ ops l ws Q t h e=yp T Γ N F (wC (T tt) fun τ=>nH Γ.own T τ (EH h) dst (ps.map fun p=>(p.1,ev t p.2))) dst ops l ws Q t h e:=dZ (fun _ _ _ hh=>by cases hh) (by simp only[kZ];first|rfl|(cases T tt<;>rfl))
theorem GJ {tt:Nat} {ps:List (Nat×Operand)} : nc T Γ N F ⟨dst,.build tt ps.toArray,ty,pos,af,gd⟩ ops l ws Q t h e fs=yr T Γ N F (wC (T tt) fun τ=>nH Γ.own T τ (EH h) dst (ps.map fun p=>(p.1,ev t p.2))) dst (bl ⟨dst,.build tt ps.toArray,ty,pos,af,gd⟩ (ev t)) ops l ws Q t h e fs:=ec (fun _ _ _ hh=>by cases hh) (by simp only[kZ];first|rfl|(cases T tt<;>rfl))
theorem sN {tt len d:Nat} {ps:List (Nat×Operand)} : mZ T Γ N F ⟨some d,.buildSlice tt len ps.toArray,ty,pos,af,gd⟩ ops l ws Q t h e=yp T Γ N F (wC (T tt) fun τ=>dB T τ (EH h) e d len (ps.map fun p=>(p.1,ev t p.2))) (some d) ops l ws Q t h e:=dZ (fun _ _ _ hh=>by cases hh) (by simp only[kZ];first|rfl|(cases T tt<;>rfl))
theorem sO {tt len d:Nat} {ps:List (Nat×Operand)} : nc T Γ N F ⟨some d,.buildSlice tt len ps.toArray,ty,pos,af,gd⟩ ops l ws Q t h e fs=yr T Γ N F (wC (T tt) fun τ=>dB T τ (EH h) e d len (ps.map fun p=>(p.1,ev t p.2))) (some d) (bl ⟨some d,.buildSlice tt len ps.toArray,ty,pos,af,gd⟩ (ev t)) ops l ws Q t h e fs:=ec (fun _ _ _ hh=>by cases hh) (by simp only[kZ];first|rfl|(cases T tt<;>rfl))
def DF (T:Nat->Option Ty) (e d tt:Nat) (x y:D):Option (Nat×Nat×Nat)->Option bt
 | some p=>(match T tt with|some τ=>p9 T τ e d p.1 p.2.1 p.2.2 x y|none=>none)
 | none=>none
theorem HD {d tt:Nat} {x y:D} : DF T e d tt x y none=none:=ah6
theorem HE {d tt:Nat} {x y:D} {p:Nat×Nat×Nat} {τ:Ty} (hτ:T tt=some τ):DF T e d tt x y (some p)=p9 T τ e d p.1 p.2.1 p.2.2 x y:=by simp only[DF,hτ]
def stM (y x:Option bt) (dst:Option Nat) (ops l:List Oper) (ws:List W) (Q:Kt) (t:Nat->D) (h:Nat->Option Row) (e:Nat):Prop :=
 match y with
 | some E=>FK T Γ N F (some E) dst ops l ws Q t h e
 | none=>yp T Γ N F x dst ops l ws Q t h e
def YO (y x:Option bt) (dst:Option Nat) (ft:List Nat) (ops l:List Oper) (ws:List W) (Q:Kt) (t:Nat->D) (h:Nat->Option Row) (e:Nat) (fs:List jg):Prop :=
 match y with
 | some E=>FL T Γ N F (some E) dst ft ops l ws Q t h e fs
 | none=>yr T Γ N F x dst ft ops l ws Q t h e fs
theorem vx {tt d:Nat} {x y:Operand} : mZ T Γ N F ⟨some d,.makeSlice tt x y,ty,pos,af,gd⟩ ops l ws Q t h e=stM (T:=T) (Γ:=Γ) (N:=N) (F:=F) (DF T e d tt (ev t x) (ev t y) (Γ.nst d)) (wC (T tt) fun τ=>oG T τ e d (ev t x) (ev t y)) (some d) ops l ws Q t h e:=by
 have hm:fM T Γ e ⟨some d,.makeSlice tt x y,ty,pos,af,gd⟩ (ev t)=DF T e d tt (ev t x) (ev t y) (Γ.nst d):=by
  unfold fM DF
  simp only
  cases Γ.nst d<;>rfl
 cases hc:DF T e d tt (ev t x) (ev t y) (Γ.nst d) with
 | none=>exact dZ (fun _ _ _ hh=>by cases hh) (by simp only[kZ];first|rfl|(cases T tt<;>rfl)) (hm.trans hc)
 | some E=>unfold mZ Ps mM;rw[hm,hc];rfl
theorem vD {tt d:Nat} {x y:Operand} : nc T Γ N F ⟨some d,.makeSlice tt x y,ty,pos,af,gd⟩ ops l ws Q t h e fs=YO (T:=T) (Γ:=Γ) (N:=N) (F:=F) (DF T e d tt (ev t x) (ev t y) (Γ.nst d)) (wC (T tt) fun τ=>oG T τ e d (ev t x) (ev t y)) (some d) (bl ⟨some d,.makeSlice tt x y,ty,pos,af,gd⟩ (ev t)) ops l ws Q t h e fs:=by
 have hm:fM T Γ e ⟨some d,.makeSlice tt x y,ty,pos,af,gd⟩ (ev t)=DF T e d tt (ev t x) (ev t y) (Γ.nst d):=by
  unfold fM DF
  simp only
  cases Γ.nst d<;>rfl
 cases hc:DF T e d tt (ev t x) (ev t y) (Γ.nst d) with
 | none=>exact ec (fun _ _ _ hh=>by cases hh) (by simp only[kZ];first|rfl|(cases T tt<;>rfl)) (hm.trans hc)
 | some E=>unfold nc Ps mM;rw[hm,hc];rfl
theorem O3 {x:Option bt} : stM (T:=T) (Γ:=Γ) (N:=N) (F:=F) none x dst ops l ws Q t h e=yp T Γ N F x dst ops l ws Q t h e:=ah6
theorem ID {x:Option bt} {ft:List Nat} : YO (T:=T) (Γ:=Γ) (N:=N) (F:=F) none x dst ft ops l ws Q t h e fs=yr T Γ N F x dst ft ops l ws Q t h e fs:=ah6
theorem O4 {x:Option bt} {E:bt} : stM (T:=T) (Γ:=Γ) (N:=N) (F:=F) (some E) x dst ops l ws Q t h e=FK T Γ N F (some E) dst ops l ws Q t h e:=ah6
theorem IE {x:Option bt} {ft:List Nat} {E:bt} : YO (T:=T) (Γ:=Γ) (N:=N) (F:=F) (some E) x dst ft ops l ws Q t h e fs=FL T Γ N F (some E) dst ft ops l ws Q t h e fs:=ah6
theorem TJ {x:Option bt} {c:Prop} [Decidable c] {E:bt} (hc:c):stM (T:=T) (Γ:=Γ) (N:=N) (F:=F) (if c then some E else none) x dst ops l ws Q t h e=FK T Γ N F (some E) dst ops l ws Q t h e:=by rw[if_pos hc];rfl
theorem O2 {x:Option bt} {ft:List Nat} {c:Prop} [Decidable c] {E:bt} (hc:c):YO (T:=T) (Γ:=Γ) (N:=N) (F:=F) (if c then some E else none) x dst ft ops l ws Q t h e fs=FL T Γ N F (some E) dst ft ops l ws Q t h e fs:=by rw[if_pos hc];rfl
def Wn (T:Nat->Option Ty) (e d tt:Nat):Option (Nat×Nat×Nat)->Option bt
 | some p=>(match T tt with|some τ=>mkA τ tt e d p.1 p.2.1 p.2.2|none=>none)
 | none=>none
theorem KM {d tt:Nat} : Wn T e d tt none=none:=ah6
theorem KN {d tt:Nat} {p:Nat×Nat×Nat} {τ:Ty} (hτ:T tt=some τ):Wn T e d tt (some p)=mkA τ tt e d p.1 p.2.1 p.2.2:=by simp only[Wn,hτ]
theorem Gy {tt d:Nat} : mZ T Γ N F ⟨some d,.alloc tt,ty,pos,af,gd⟩ ops l ws Q t h e=stM (T:=T) (Γ:=Γ) (N:=N) (F:=F) (Wn T e d tt (Γ.nst d)) (BT (T tt) tt d e (Γ.hint d)) (some d) ops l ws Q t h e:=by
 have hm:fM T Γ e ⟨some d,.alloc tt,ty,pos,af,gd⟩ (ev t)=Wn T e d tt (Γ.nst d):=by
  unfold fM Wn
  simp only
  cases Γ.nst d<;>rfl
 cases hc:Wn T e d tt (Γ.nst d) with
 | none=>exact dZ (fun _ _ _ hh=>by cases hh) (by simp only[kZ];cases T tt with|none=>rfl|some τ=>(dsimp only[BT];cases Γ.hint d<;>rfl)) (hm.trans hc)
 | some E=>unfold mZ Ps mM;rw[hm,hc];rfl
theorem GH {tt d:Nat} : nc T Γ N F ⟨some d,.alloc tt,ty,pos,af,gd⟩ ops l ws Q t h e fs=YO (T:=T) (Γ:=Γ) (N:=N) (F:=F) (Wn T e d tt (Γ.nst d)) (BT (T tt) tt d e (Γ.hint d)) (some d) (bl ⟨some d,.alloc tt,ty,pos,af,gd⟩ (ev t)) ops l ws Q t h e fs:=by
 have hm:fM T Γ e ⟨some d,.alloc tt,ty,pos,af,gd⟩ (ev t)=Wn T e d tt (Γ.nst d):=by
  unfold fM Wn
  simp only
  cases Γ.nst d<;>rfl
 cases hc:Wn T e d tt (Γ.nst d) with
 | none=>exact ec (fun _ _ _ hh=>by cases hh) (by simp only[kZ];cases T tt with|none=>rfl|some τ=>(dsimp only[BT];cases Γ.hint d<;>rfl)) (hm.trans hc)
 | some E=>unfold nc Ps mM;rw[hm,hc];rfl
theorem zM {tt d:Nat} : mZ T Γ N F ⟨some d,.makeMap tt none,ty,pos,af,gd⟩ ops l ws Q t h e=yp T Γ N F (Vy T (T tt) tt e d) (some d) ops l ws Q t h e:=dZ (fun _ _ _ hh=>by cases hh) (by simp only[kZ];first|rfl|(cases T tt<;>rfl))
theorem zQ {tt d:Nat} : nc T Γ N F ⟨some d,.makeMap tt none,ty,pos,af,gd⟩ ops l ws Q t h e fs=yr T Γ N F (Vy T (T tt) tt e d) (some d) (bl ⟨some d,.makeMap tt none,ty,pos,af,gd⟩ (ev t)) ops l ws Q t h e fs:=ec (fun _ _ _ hh=>by cases hh) (by simp only[kZ];first|rfl|(cases T tt<;>rfl))
theorem Cp {tt:Nat} {m i:Operand} {ok:Bool} : mZ T Γ N F ⟨dst,.lookup tt m i ok,ty,pos,af,gd⟩ ops l ws Q t h e=yp T Γ N F (wC (T tt) fun τ=>fu T τ (EH h) (ev t m) (ev t i) ok) dst ops l ws Q t h e:=dZ (fun _ _ _ hh=>by cases hh) (by simp only[kZ];first|rfl|(cases T tt<;>rfl))
theorem Cs {tt:Nat} {m i:Operand} {ok:Bool} : nc T Γ N F ⟨dst,.lookup tt m i ok,ty,pos,af,gd⟩ ops l ws Q t h e fs=yr T Γ N F (wC (T tt) fun τ=>fu T τ (EH h) (ev t m) (ev t i) ok) dst (bl ⟨dst,.lookup tt m i ok,ty,pos,af,gd⟩ (ev t)) ops l ws Q t h e fs:=ec (fun _ _ _ hh=>by cases hh) (by simp only[kZ];first|rfl|(cases T tt<;>rfl))
theorem vA {tt:Nat} {m i x:Operand} : mZ T Γ N F ⟨dst,.mapUpdate tt m i x,ty,pos,af,gd⟩ ops l ws Q t h e=yp T Γ N F (wC (T tt) fun τ=>cg T τ (EH h) (ev t m) (ev t i) (ev t x)) dst ops l ws Q t h e:=dZ (fun _ _ _ hh=>by cases hh) (by simp only[kZ];first|rfl|(cases T tt<;>rfl))
theorem vE {tt:Nat} {m i x:Operand} : nc T Γ N F ⟨dst,.mapUpdate tt m i x,ty,pos,af,gd⟩ ops l ws Q t h e fs=yr T Γ N F (wC (T tt) fun τ=>cg T τ (EH h) (ev t m) (ev t i) (ev t x)) dst (bl ⟨dst,.mapUpdate tt m i x,ty,pos,af,gd⟩ (ev t)) ops l ws Q t h e fs:=ec (fun _ _ _ hh=>by cases hh) (by simp only[kZ];first|rfl|(cases T tt<;>rfl))
theorem Co {tt:Nat} {m i x:Operand} : mZ T Γ N F ⟨dst,.insert tt m i x,ty,pos,af,gd⟩ ops l ws Q t h e=yp T Γ N F (wC (T tt) fun τ=>cg T τ (EH h) (ev t m) (ev t i) (ev t x)) dst ops l ws Q t h e:=dZ (fun _ _ _ hh=>by cases hh) (by simp only[kZ];first|rfl|(cases T tt<;>rfl))
theorem Cr {tt:Nat} {m i x:Operand} : nc T Γ N F ⟨dst,.insert tt m i x,ty,pos,af,gd⟩ ops l ws Q t h e fs=yr T Γ N F (wC (T tt) fun τ=>cg T τ (EH h) (ev t m) (ev t i) (ev t x)) dst (bl ⟨dst,.insert tt m i x,ty,pos,af,gd⟩ (ev t)) ops l ws Q t h e fs:=ec (fun _ _ _ hh=>by cases hh) (by simp only[kZ];first|rfl|(cases T tt<;>rfl))
theorem SA {tt d:Nat} {x:Operand} : mZ T Γ N F ⟨some d,.box tt x,ty,pos,af,gd⟩ ops l ws Q t h e=yp T Γ N F (abT (dY (EH h) (ev t x)) (EH h) tt d e) (some d) ops l ws Q t h e:=dZ (fun _ _ _ hh=>by cases hh) (by simp only[kZ];first|rfl|(cases dY (EH h) (ev t x)<;>rfl))
theorem SB {tt d:Nat} {x:Operand} : nc T Γ N F ⟨some d,.box tt x,ty,pos,af,gd⟩ ops l ws Q t h e fs=yr T Γ N F (abT (dY (EH h) (ev t x)) (EH h) tt d e) (some d) (bl ⟨some d,.box tt x,ty,pos,af,gd⟩ (ev t)) ops l ws Q t h e fs:=ec (fun _ _ _ hh=>by cases hh) (by simp only[kZ];first|rfl|(cases dY (EH h) (ev t x)<;>rfl))
theorem zK {a b:Nat} {x:Operand} : mZ T Γ N F ⟨dst,.convert a b x,ty,pos,af,gd⟩ ops l ws Q t h e=yp T Γ N F (WV (T b) (T a) (ev t x)) dst ops l ws Q t h e:=dZ (fun _ _ _ hh=>by cases hh) rfl
theorem zO {a b:Nat} {x:Operand} : nc T Γ N F ⟨dst,.convert a b x,ty,pos,af,gd⟩ ops l ws Q t h e fs=yr T Γ N F (WV (T b) (T a) (ev t x)) dst (bl ⟨dst,.convert a b x,ty,pos,af,gd⟩ (ev t)) ops l ws Q t h e fs:=ec (fun _ _ _ hh=>by cases hh) rfl
theorem zL {x:Nat} {i:Nat} : mZ T Γ N F ⟨dst,.extract (.tmp x) i,ty,pos,af,gd⟩ ops l ws Q t h e=yp T Γ N F (aak (t x) i) dst ops l ws Q t h e:=dZ (fun _ _ _ hh=>by cases hh) rfl
theorem zP {x:Nat} {i:Nat} : nc T Γ N F ⟨dst,.extract (.tmp x) i,ty,pos,af,gd⟩ ops l ws Q t h e fs=yr T Γ N F (aak (t x) i) dst (bl ⟨dst,.extract (.tmp x) i,ty,pos,af,gd⟩ (ev t)) ops l ws Q t h e fs:=ec (fun _ _ _ hh=>by cases hh) rfl
def cnL (Γ:Env) (e:Nat) (h:Nat->Option Row) (g:Nat) (args:List D):Option (Nat×(Nat->Nat->Nat->Nat->List D->List D->Option (D×List D)))->Option bt
 | some _=>pF Γ e h g args
 | none=>none
theorem Lv {g:Nat} {args:List D} : cnL Γ e h g args none=none:=ah6
theorem Lw {g:Nat} {args:List D} {p:Nat×(Nat->Nat->Nat->Nat->List D->List D->Option (D×List D))} : cnL Γ e h g args (some p)=pF Γ e h g args:=ah6
theorem Xk {g:Nat} {args:List D} : z8 Γ e h (some (.fn g,args))=cnL Γ e h g args (Γ.nx.lnd g):=by
 cases hl:Γ.nx.lnd g with
 | some p=>rfl
 | none =>
  show pF Γ e h g args=none
  cases hc:pF Γ e h g args with
  | none=>rfl
  | some E =>
   obtain⟨_,_,_,_,_,_,_,_,_,_,_,_,_,_,_,_,h1,_⟩:=qI hc
   rw[hl]at h1
   cases h1
theorem SD {f k:Nat} {xs args:List D} : z8 Γ e h (some (.clo f k xs,args))=none:=ah6
theorem Xj {d g:Nat} {args:List D} : k9 Γ e h (some d) (some (.fn g,args))=CL e d h args (Γ.nx.res g):=ah6
theorem SC {dst:Option Nat} {f k:Nat} {xs args:List D} : k9 Γ e h dst (some (.clo f k xs,args))=none:=by cases dst<;>rfl
theorem LX {q:Option (D×List D)} : k9 Γ e h none q=none:=ah6
theorem LY {d:Nat} {args:List D} : CL e d h args none=none:=ah6
theorem LZ {d:Nat} {args:List D} {p:List D->Option (Nat×Nat×Nat×Nat×Nat×List D)} : CL e d h args (some p)=Gi p e d (bm (EH h) args):=ah6
theorem K3 {d:Nat} {afq:List D} {p:List D->Option (Nat×Nat×Nat×Nat×Nat×List D)} : Gi p e d (some (afq,[]))=Je e d (p afq):=ah6
theorem Gj {d ty tt s S n:Nat} {cs:List D} (hd:d<1000000):Je e d (some (ty,tt,s,S,n,cs))=some ⟨.buf d e S 0 n,[(d,some ⟨e,ty,[.nr tt s (4*e+2) cs],false,true,true⟩)]⟩:=if_pos (by rw[bZ];exact hd)
def stC (y0 x y:Option bt) (dst:Option Nat) (ops l:List Oper) (ws:List W) (Q:Kt) (t:Nat->D) (h:Nat->Option Row) (e:Nat):Prop :=
 match y0 with
 | some E=>FK T Γ N F (some E) dst ops l ws Q t h e
 | none=>EG T Γ N F x y dst ops l ws Q t h e
def acw (y0 x y:Option bt) (dst:Option Nat) (ft:List Nat) (ops l:List Oper) (ws:List W) (Q:Kt) (t:Nat->D) (h:Nat->Option Row) (e:Nat) (fs:List jg):Prop :=
 match y0 with
 | some E=>FL T Γ N F (some E) dst ft ops l ws Q t h e fs
 | none=>EI T Γ N F x y dst ft ops l ws Q t h e fs
theorem OY {x y:Option bt} : stC (T:=T) (Γ:=Γ) (N:=N) (F:=F) none x y dst ops l ws Q t h e=EG T Γ N F x y dst ops l ws Q t h e:=ah6
theorem Iy {x y:Option bt} {ft:List Nat} : acw (T:=T) (Γ:=Γ) (N:=N) (F:=F) none x y dst ft ops l ws Q t h e fs=EI T Γ N F x y dst ft ops l ws Q t h e fs:=ah6
theorem OZ {x y:Option bt} {E:bt} : stC (T:=T) (Γ:=Γ) (N:=N) (F:=F) (some E) x y dst ops l ws Q t h e=FK T Γ N F (some E) dst ops l ws Q t h e:=ah6
theorem Iz {x y:Option bt} {ft:List Nat} {E:bt} : acw (T:=T) (Γ:=Γ) (N:=N) (F:=F) (some E) x y dst ft ops l ws Q t h e fs=FL T Γ N F (some E) dst ft ops l ws Q t h e fs:=ah6
theorem LD {x:Operand} {afq:List Operand} {tys:Array Nat} : mZ T Γ N F ⟨dst,.call ⟨.value x,afq.toArray,tys⟩,ty,pos,af,gd⟩ ops l ws Q t h e=stC (T:=T) (Γ:=Γ) (N:=N) (F:=F) (k9 Γ e h dst (some (ev t x,afq.map (ev t)))) (gn Γ (EH h) e dst (ev t x) (afq.map (ev t))) (z8 Γ e h (some (ev t x,afq.map (ev t)))) dst ops l ws Q t h e:=by
 have hco:fZ (ev t) (.call ⟨.value x,afq.toArray,tys⟩)=some (ev t x,afq.map (ev t)):=rfl
 cases hc:k9 Γ e h dst (some (ev t x,afq.map (ev t))) with
 | none=>exact xc (fun _ _ _ hh=>by cases hh) rfl (by rw[hco];exact hc) rfl rfl
 | some E=>unfold mZ Ps mM;simp only[fM,hco,hc];rfl
theorem LN {x:Operand} {afq:List Operand} {tys:Array Nat} : nc T Γ N F ⟨dst,.call ⟨.value x,afq.toArray,tys⟩,ty,pos,af,gd⟩ ops l ws Q t h e fs=acw (T:=T) (Γ:=Γ) (N:=N) (F:=F) (k9 Γ e h dst (some (ev t x,afq.map (ev t)))) (gn Γ (EH h) e dst (ev t x) (afq.map (ev t))) (z8 Γ e h (some (ev t x,afq.map (ev t)))) dst (bl ⟨dst,.call ⟨.value x,afq.toArray,tys⟩,ty,pos,af,gd⟩ (ev t)) ops l ws Q t h e fs:=by
 have hco:fZ (ev t) (.call ⟨.value x,afq.toArray,tys⟩)=some (ev t x,afq.map (ev t)):=rfl
 cases hc:k9 Γ e h dst (some (ev t x,afq.map (ev t))) with
 | none=>exact xf (fun _ _ _ hh=>by cases hh) rfl (by rw[hco];exact hc) rfl rfl
 | some E=>unfold nc Ps mM;simp only[fM,hco,hc];rfl
theorem zJ {x:Builtin} {afq:List Operand} {tys:List Nat} : mZ T Γ N F ⟨dst,.call ⟨.builtin x,afq.toArray,tys.toArray⟩,ty,pos,af,gd⟩ ops l ws Q t h e=yp T Γ N F (b6 T (EH h) e dst x tys (afq.map (ev t))) dst ops l ws Q t h e:=dZ (fun _ _ _ hh=>by cases hh) rfl
theorem zN {x:Builtin} {afq:List Operand} {tys:List Nat} : nc T Γ N F ⟨dst,.call ⟨.builtin x,afq.toArray,tys.toArray⟩,ty,pos,af,gd⟩ ops l ws Q t h e fs=yr T Γ N F (b6 T (EH h) e dst x tys (afq.map (ev t))) dst (bl ⟨dst,.call ⟨.builtin x,afq.toArray,tys.toArray⟩,ty,pos,af,gd⟩ (ev t)) ops l ws Q t h e fs:=ec (fun _ _ _ hh=>by cases hh) rfl
theorem bB {o:Array Oper} {A:Prop} (h1:CB o fs=true) (h2:A):CB o fs=true∧A:=⟨h1,h2⟩
theorem ak {b:Bool} {g:Nat} {x y:Code} (h1:b=true->cA T Γ N F (.code x::ws) Q .normal (bz t g (.bool true)) h e) (h2:b=false->cA T Γ N F (.code y::ws) Q .normal (bz t g (.bool false)) h e):Ks T Γ N F (.bool b) g x y ws Q t h e:=by rw[VS];exact⟨h1,h2⟩
theorem cP {b:Bool} {g:Nat} {o:Oper} (h1:b=true->mZ T Γ N F o ops l ws Q (bz t g (.bool true)) h e) (h2:b=false->jl T Γ N F ops l ws Q (dU (bz t g (.bool false)) o.dst .skp) h e):vt T Γ N F (.bool b) g true o ops l ws Q t h e:=by rw[VT];exact⟨h1,h2⟩
theorem aO {b:Bool} {g:Nat} {o:Oper} (h1:b=true->jl T Γ N F ops l ws Q (dU (bz t g (.bool true)) o.dst .skp) h e) (h2:b=false->mZ T Γ N F o ops l ws Q (bz t g (.bool false)) h e):vt T Γ N F (.bool b) g false o ops l ws Q t h e:=by rw[Ru];exact⟨h1,h2⟩
theorem Ku {b:Bool} {g:Nat} {o:Oper} (h1:b=true->nc T Γ N F o ops l ws Q (bz t g (.bool true)) h e fs) (h2:b=false->j0 T Γ N F ops l ws Q (dU (bz t g (.bool false)) o.dst .skp) h e (fs++[⟨[],true⟩])):vu T Γ N F (.bool b) g true o ops l ws Q t h e fs:=by rw[VU];exact⟨h1,h2⟩
theorem oo {b:Bool} {g:Nat} {o:Oper} (h1:b=true->j0 T Γ N F ops l ws Q (dU (bz t g (.bool true)) o.dst .skp) h e (fs++[⟨[],true⟩])) (h2:b=false->nc T Γ N F o ops l ws Q (bz t g (.bool false)) h e fs):vu T Γ N F (.bool b) g false o ops l ws Q t h e fs:=by rw[Rv];exact⟨h1,h2⟩
def Xq (mode:Mode) (T:Nat->Option Ty) (lent:Option (D×Row)) (rs:List ResultVar) (r:RK×Option Row):Kt:=fun x t h e=>ab0 mode T lent rs x t h e r
theorem Ab {mode:Mode} {lent:Option (D×Row)} {rs:List ResultVar} {r:RK×Option Row} : Xq mode T lent rs r .normal t h e=(eZ mode T lent rs ⟨t,EH h,e⟩=some r):=ah6
theorem cn {mode:Mode} {lent:Option (D×Row)} {rs:List ResultVar} {r:RK×Option Row} : Xq mode T lent rs r .ret t h e=(eZ mode T lent rs ⟨t,EH h,e⟩=some r):=ah6
def aa6 (T:Nat->Option Ty) (ty tt s:Nat) (rs:List ResultVar) (r:D×List D):Kt:=fun x t h e =>
 match x with
 | .exit _=>False
 | _=>UO T ty tt s rs ⟨t,h,e⟩=some r
theorem xv {ty tt s:Nat} {rs:List ResultVar} {r:D×List D} : aa6 T ty tt s rs r .normal t h e=(UO T ty tt s rs ⟨t,h,e⟩=some r):=ah6
theorem uh {ty tt s:Nat} {rs:List ResultVar} {r:D×List D} : aa6 T ty tt s rs r .ret t h e=(UO T ty tt s rs ⟨t,h,e⟩=some r):=ah6
def aa5 (rs:List ResultVar) (r:Nat×Nat×Nat×Nat×Nat×List D):Kt:=fun x t h e =>
 match x with
 | .exit _=>False
 | _=>UN rs ⟨t,h,e⟩=some r
theorem xu {rs:List ResultVar} {r:Nat×Nat×Nat×Nat×Nat×List D} : aa5 rs r .normal t h e=(UN rs ⟨t,h,e⟩=some r):=ah6
theorem ug {rs:List ResultVar} {r:Nat×Nat×Nat×Nat×Nat×List D} : aa5 rs r .ret t h e=(UN rs ⟨t,h,e⟩=some r):=ah6
theorem SL {ty tt s:Nat} {rs:List ResultVar} : UO T ty tt s rs ⟨t,h,e⟩=L8 ty tt s (rF T ⟨t,EH h,e⟩ rs) (h 0):=ah6
theorem L9 {ty tt s nv:Nat} {lst:Bool} {ds cs:List D} : L8 ty tt s (some (ds,[])) (some ⟨0,ty,[.nr tt s nv cs],false,lst,true⟩)=some (jZ ds,cs):=by
 simp[L8,Xp]
theorem SJ {i:Nat} : UN [.tmp i] ⟨t,h,e⟩=SI h (t i):=ah6
theorem GY {x v S n:Nat} : SI h (.buf x v S 0 n)=L6 x v S n (h x):=ah6
theorem L7 {x v S n ty tt s nv:Nat} {lst:Bool} {cs:List D} (hx:x<1000000):L6 x v S n (some ⟨v,ty,[.nr tt s nv cs],false,lst,true⟩)=some (ty,tt,s,S,n,cs):=by
 have:x<PK:=by rw[bZ];exact hx
 simp[L6,Xo,this]
theorem aA {mode:Mode} {fn:Func} {c:Code} {n:Nat} {rs:List ResultVar} {args:List D} {r:RK×Option Row} (hb:fn.body=some c) (hn:fn.ntmps=n) (hr:fn.results=rs.toArray) (hw:cA T Γ n F [.code c] (Xq mode T none rs r) .normal (E7 args) Tn 0) (hpk:n<=1000000:=by exact ahf rfl):aW mode T Γ F fn none args=some r:=by
 refine RG ?_ (by rw[hn];exact hpk)
 unfold wpf
 rw[hb,hn,hr]
 exact hw
theorem OI (r:Row) (i:Nat):lB r i=if i=0 then some r else none:=ah6
theorem EY {mode:Mode} {fn:Func} {c:Code} {n:Nat} {rs:List ResultVar} {d0:D} {ty:Nat} {cells:List D} {fz lst:Bool} {args:List D} {r:RK×Option Row} (hb:fn.body=some c) (hn:fn.ntmps=n) (hr:fn.results=rs.toArray)
  (hw:cA T Γ n F [.code c] (Xq mode T (some (d0,⟨0,ty,cells,fz,lst,false⟩)) rs r) .normal (E7 (d0::args)) (lB ⟨0,ty,cells,fz,lst,false⟩) 1) (hpk:n<=1000000:=by exact ahf rfl):aW mode T Γ F fn (some (d0,⟨0,ty,cells,fz,lst,false⟩)) args=some r:=by
 refine RG ?_ (by rw[hn];exact hpk)
 unfold wpf
 rw[hb,hn,hr]
 exact hw
end
section
variable {h:Nat->Option Row} {k x o v ty fz' nv s n e:Nat} {cs xs:List D} {fz lst:Bool}
theorem V8 (hk:k<2000000):EH h k=(h k).map (Bl k):=pE (by rw[bZ];exact hk)
theorem aaT (hx:x<1000000):EH h (NK x o)=(h x).bind fun r=>oV r o:=pD (by rw[bZ];exact hx)
theorem Iv:Bl k ⟨v,ty,cs,fz,lst,false⟩=⟨v,ty,cs,fz,lst,false⟩:=ah6
theorem TF {ks:List bV} : Bl k ⟨v,ty,[.mpc ks xs],fz,lst,true⟩=⟨v,ty,[.mpc ks xs],fz,lst,true⟩:=ah6
theorem YI {y:Nat} : Bl k ⟨v,ty,[.ph y s n],fz,lst,true⟩=⟨v,ty,[.ph y s n],fz,lst,true⟩:=ah6
theorem YH {t:Nat} : Bl k ⟨v,ty,[.nr t s nv cs],fz,lst,true⟩=⟨v,ty,cs.mapIdx (ow k s),fz,lst,true⟩:=ah6
theorem NY {t:Nat} : oV ⟨v,ty,[.nr t s nv cs],fz,lst,true⟩ o=DH t nv fz (cs.drop o).head?:=ah6
theorem NX:DH ty nv fz (some (.nx n xs))=some ⟨nv,ty,xs,fz,true,false⟩:=ah6
theorem abz (hx:x<1000000):rt (NK x o)=x:=rX (by rw[bZ];exact hx)
theorem Hj:je h []=[]:=ah6
theorem Hi {r:Option Row} {l:List (Nat×Option Row)} (hk:k<2000000):je h ((k,r)::l)=(k,DI r)::je (bz h k (DI r)) l:=by
 have h1:rt k=k:=fX (by rw[bZ];exact hk)
 have h2:xW h k r=DI r:=if_pos (by rw[bZ];exact hk)
 simp only[je,h1,h2]
theorem Mk {r:Option Row} {l:List (Nat×Option Row)} (hx:x<1000000):je h ((NK x o,r)::l)=(x,(h x).map (Ef o r))::je (bz h x ((h x).map (Ef o r))) l:=by
 have hx':x<PK:=by rw[bZ];exact hx
 have h1:rt (NK x o)=x:=rX hx'
 have h2:xW h (NK x o) r=(h x).map (Ef o r):=by
  unfold xW
  rw[if_neg (by have:=dX x o;omega),qv o hx',BL o hx']
 simp only[je,h1,h2]
theorem HO:DI none=none:=ah6
theorem DJ:DI (some ⟨v,ty,cs,fz,lst,false⟩)=some ⟨v,ty,cs,fz,lst,false⟩:=ah6
theorem N0 {ks:List bV} : DI (some ⟨v,ty,[.mpc ks xs],fz,lst,true⟩)=some ⟨v,ty,[.mpc ks xs],fz,lst,true⟩:=ah6
theorem Tm {y:Nat} : DI (some ⟨v,ty,[.ph y s n],fz,lst,true⟩)=some ⟨v,ty,[.ph y s n],fz,lst,true⟩:=ah6
theorem Tw {t:Nat} {r:Option Row} : Ef o r ⟨v,ty,[.nr t s nv cs],fz,lst,true⟩=⟨v,ty,zh t s nv fz cs o r (cs.drop o).head?,fz,lst,true⟩:=ah6
theorem TE {t v':Nat} {xs':List D} : zh t s nv fz cs o (some ⟨v',t,xs',fz,true,false⟩) (some (.nx n xs))=if v'=nv then [.nr t s nv (putCells cs o [.nx n xs'])] else [.nr t s nv (putCells cs o [.und])]:=by
 by_cases hv:v'=nv<;>simp[zh,HY,hv]
def lvN (x v:Nat):Option Row->Option (Row×Nat×Nat×Nat×List D)
 | some r=>if r.v=v∧r.fz=false∧r.mp=true∧x<1000000 then nrO r r.cells else none
 | none=>none
theorem Ni:eU h x v=lvN x v (h x):=by
 unfold eU lvN
 rw[bZ]
 cases h x<;>rfl
theorem XV {t:Nat} (hx:x<1000000):lvN x v (some ⟨v,ty,[.nr t s nv cs],false,lst,true⟩)=some (⟨v,ty,[.nr t s nv cs],false,lst,true⟩,t,s,nv,cs):=by
 simp only[lvN,true_and,hx,and_self,if_true,nrO]
def ab8 (τ:Ty) (x o:Nat):Option (Row×Nat×Nat×Nat×List D)->Option bt
 | some (r,ty,s,nv,cs)=>Dn τ x s nv o cs (cs.drop o).head?
 | none=>none
theorem S9 {τ:Ty} : nK τ h (.ptr x v o)=ab8 τ x o (eU h x v):=by
 simp only[nK,ab8]
 cases eU h x v<;>rfl
theorem Ht {τ:Ty} {r:Row} {t:Nat} : ab8 τ x o (some (r,t,s,nv,cs))=Dn τ x s nv o cs (cs.drop o).head?:=ah6
theorem S7 {ds:Ds} {b:Nat} {z:List Value} {q:Bool} : Dn ⟨ds,1,b,z,q⟩ x s nv o cs (some (.nx n xs))=if ds.nd=false then some ⟨.buf (NK x o) nv s 0 n,[]⟩ else none:=by
 simp only[Dn,true_and]
def U7 (τ:Ty) (o:Nat) (cs:List D):Option bt :=
 if o+τ.size<=cs.length∧((cs.drop o).take τ.size).all er=true then okD (iB τ ((cs.drop o).take τ.size)) else none
theorem M9 {τ:Ty} {kk:IntKind} {i:Int} : Dn τ x s nv o cs (some (.int kk i))=U7 τ o cs:=ah6
theorem Hu {τ:Ty} {b:Bool} : Dn τ x s nv o cs (some (.bool b))=U7 τ o cs:=ah6
theorem Na {τ:Ty} {b:ByteArray} : Dn τ x s nv o cs (some (.str b))=U7 τ o cs:=ah6
theorem S8 {τ:Ty} {a b:Bool} : Dn τ x s nv o cs (some (.sl a b n xs))=U7 τ o cs:=ah6
def aaK (τ:Ty) (e:Nat) (h:Nat->Option Row) (x o:Nat) (d:D):Option (Row×Nat×Nat×Nat×List D)->Option bt
 | some (r,ty,s,nv,cs)=>if o+τ.size<=cs.length∧0<τ.size then vr τ e h x r ty s nv cs o d else none
 | none=>none
theorem TL {τ:Ty} {d:D} : lp τ e h (.ptr x v o) d=aaK τ e h x o d (eU h x v):=by
 simp only[lp,aaK]
 cases eU h x v<;>rfl
theorem IG {ds:Ds} {m b:Nat} {z:List Value} {q:Bool} {d:D} {r:Row} {t:Nat} (hm:0<m) (hc:o+m<=cs.length):aaK ⟨ds,m,b,z,q⟩ e h x o d (some (r,t,s,nv,cs))=vr ⟨ds,m,b,z,q⟩ e h x r t s nv cs o d:=by
 simp only[aaK,hm,hc,and_self,if_true]
theorem IH {ds:Ds} {b:Nat} {z:List Value} {q:Bool} {r:Row} {t:Nat} : vr ⟨ds,1,b,z,q⟩ e h x r t s nv cs o (.buf (NK x o) nv s 0 n)=zj x r t s nv cs o n (cs.drop o).head?:=by
 simp only[vr,and_self,if_true]
theorem Ix {ds:Ds} {r:Row} {t n0:Nat} : zj x r t s nv cs o n (some (.nx n0 xs))=if n*s<=xs.length then some ⟨.und,[(x,some ⟨r.v,r.ty,[.nr t s nv (putCells cs o [.nx n (xs.take (n*s))])],false,r.lst,true⟩)]⟩ else none:=ah6
def acx (x:Nat) (r:Row) (ty s:Nat) (cs:List D) (o y n:Nat) (b:Option Nat):Option Row->Option bt
 | some q=>if q.fz=false∧q.lst=true∧q.ty=ty∧q.cells.length=n*s then zk x r ty s cs o y n q b else none
 | none=>none
theorem IJ {ds:Ds} {b y vy:Nat} {z:List Value} {q:Bool} {r:Row} {t:Nat} (hy:y<1000000):vr ⟨ds,1,b,z,q⟩ e h x r t s nv cs o (.buf y vy s 0 n)=acx x r t s cs o y n (bump nv e) (live h y vy):=by
 have h1:¬y=NK x o:=by have:=dX x o;rw[bZ]at this;omega
 have h2:y<PK:=by rw[bZ];exact hy
 simp only[vr,and_self,if_true,h1,if_false,h2]
 cases live h y vy<;>rfl
theorem IF {r q:Row} {t nv' y:Nat} (hc:q.fz=false∧q.lst=true∧q.ty=t∧q.cells.length=n*s):acx x r t s cs o y n (some nv') (some q)=some ⟨.und,[(y,none),(x,some ⟨r.v,r.ty,[.nr t s nv' (putCells cs o [.nx n q.cells])],false,r.lst,true⟩)]⟩:=by
 simp only[acx,hc,and_self,if_true,zk]
theorem O6 {τ:Ty} {r:Row} {t:Nat} {kk:IntKind} {i:Int} : vr τ e h x r t s nv cs o (.int kk i)=zl τ x r t s nv cs o (some [.int kk i]):=ah6
theorem II {τ:Ty} {r:Row} {t:Nat} {b:Bool} : vr τ e h x r t s nv cs o (.bool b)=zl τ x r t s nv cs o (some [.bool b]):=ah6
theorem O7 {τ:Ty} {r:Row} {t:Nat} {b:ByteArray} : vr τ e h x r t s nv cs o (.str b)=zl τ x r t s nv cs o (some [.str b]):=ah6
theorem TK {τ:Ty} {r:Row} {t:Nat} {a b:Bool} : vr τ e h x r t s nv cs o (.sl a b n xs)=zl τ x r t s nv cs o (some [.sl a b n xs]):=ah6
theorem O5 {τ:Ty} {r:Row} {t:Nat} : vr τ e h x r t s nv cs o (.agg xs)=zl τ x r t s nv cs o (some xs):=ah6
theorem IN {τ:Ty} {r:Row} {t:Nat} {c':List D} : zl τ x r t s nv cs o (some c')=if c'.length=τ.size∧c'.all er=true then some ⟨.und,[(x,some ⟨r.v,r.ty,[.nr t s nv (putCells cs o (c'.map canon))],false,r.lst,true⟩)]⟩ else none:=ah6
theorem Br (hn:nv<=4*e):bump nv e=some (4*e+1):=if_pos hn
theorem WC (hn:nv=4*e+2):bump nv e=some (4*e+3):=by unfold bump;rw[if_neg (by omega),if_pos hn]
theorem Ov {E:bt} {y:Option bt} : ZZ (some E) y=some E:=ah6
theorem Ou {y:Option bt} : ZZ none y=y:=ah6
def U4 (τ:Ty) (x o:Nat):Option (Row×Nat×Nat×Nat×List D)->Option bt
 | some (r,ty,s,nv,cs)=>if r.lst=false∧o=0∧cs.length=τ.size∧1<τ.size∧cs.all (Bb s)=true then Qv x r ty s nv (lC τ.size 0 cs) (iB τ (cs.map VW)) else none
 | none=>none
theorem S6 {τ:Ty} : sU τ h (.ptr x v o)=ZZ (U4 τ x o (eU h x v)) (nK τ h (.ptr x v o)):=by
 simp only[sU,nJ]
 cases eU h x v<;>rfl
theorem Hr {τ:Ty} : U4 τ x o none=none:=ah6
theorem XN {τ:Ty} {v' ty:Nat} {cells:List D} {fz mp:Bool} {t:Nat} : U4 τ x o (some (⟨v',ty,cells,fz,true,mp⟩,t,s,nv,cs))=none:=by simp[U4]
theorem XO {τ:Ty} {v' ty:Nat} {cells:List D} {fz mp:Bool} {t:Nat} : U4 τ x o (some (⟨v',ty,cells,fz,false,mp⟩,t,s,nv,cs))=if o=0∧cs.length=τ.size∧1<τ.size∧cs.all (Bb s)=true then Qv x ⟨v',ty,cells,fz,false,mp⟩ t s nv (lC τ.size 0 cs) (iB τ (cs.map VW)) else none:=by
 simp only[U4,true_and]
theorem Hs {r:Row} {t:Nat} {d:D} : Qv x r t s nv cs (some d)=some ⟨d,[(x,some ⟨r.v,r.ty,[.nr t s nv cs],false,r.lst,true⟩)]⟩:=ah6
def VO (τ:Ty) (e x o:Nat) (d:D):Option (Row×Nat×Nat×Nat×List D)->Option bt
 | some (r,ty,s,nv,cs)=>if r.lst=false∧o=0∧cs.length=τ.size then Rf τ.size e x r ty s nv cs d else none
 | none=>none
theorem TG {τ:Ty} {d:D} : sW τ e h (.ptr x v o) d=ZZ (VO τ e x o d (eU h x v)) (lp τ e h (.ptr x v o) d):=by
 simp only[sW,nO]
 cases eU h x v<;>rfl
theorem IQ {τ:Ty} {d:D} : VO τ e x o d none=none:=ah6
theorem YP {τ:Ty} {d:D} {v' ty:Nat} {cells:List D} {fz mp:Bool} {t:Nat} : VO τ e x o d (some (⟨v',ty,cells,fz,true,mp⟩,t,s,nv,cs))=none:=by simp[VO]
theorem YQ {τ:Ty} {d:D} {v' ty:Nat} {cells:List D} {fz mp:Bool} {t:Nat} : VO τ e x o d (some (⟨v',ty,cells,fz,false,mp⟩,t,s,nv,cs))=if o=0∧cs.length=τ.size then Rf τ.size e x ⟨v',ty,cells,fz,false,mp⟩ t s nv cs d else none:=by
 simp only[VO,true_and]
theorem Pd {n' t:Nat} {r:Row} : Rf n' e x r t s nv cs (.agg xs)=if xs.length=n' then stZ x r t s (bump nv e) (p8 cs xs) else none:=ah6
theorem Pc {r:Row} {t nv':Nat} {cs':List D} : stZ x r t s (some nv') (some cs')=some ⟨.und,[(x,some ⟨r.v,r.ty,[.nr t s nv' cs'],false,r.lst,true⟩)]⟩:=ah6
def aaS:Option D->Option (List D)->Option (List D)
 | some y,some ys=>some (y::ys)
 | _,_=>none
theorem I1 {y:D} {ys:List D} : aaS (some y) (some ys)=some (y::ys):=ah6
theorem I2:p8 [] []=some []:=ah6
theorem E2 {c x:D} {cs xs:List D} : p8 (c::cs) (x::xs)=aaS (FR c x) (p8 cs xs):=by
 simp only[p8]
 cases FR c x<;>cases p8 cs xs<;>rfl
theorem Ur:FR (.nx n xs) (.sl true true 0 [])=some (.nx 0 []):=ah6
theorem Up {k k':IntKind} {i j:Int} : FR (.int k i) (.int k' j)=some (.int k' j):=ah6
theorem Pr {a b:D} : lC 2 0 [a,b]=[VW a,VW b]:=ah6
theorem Uh {k:IntKind} {i:Int} : VW (.int k i)=.int k i:=ah6
theorem ZL:VW (.nx n xs)=.sl false false n xs:=ah6
theorem Tq {k:IntKind} {i:Int} : Bb s (.int k i)=true:=ah6
theorem Yi:Bb s (.nx n xs)=(xs.length==n*s):=ah6
theorem Yj {a b:Bool} : Bb s (.sl a b n xs)=true:=ah6
theorem ZM {a b:Bool} : VW (.sl a b n xs)=.sl a b n xs:=ah6
theorem Uq {m:Nat} {ys:List D} : FR (.nx n xs) (.sl false false m ys)=none:=ah6
theorem Us {a b c d:Bool} {m:Nat} {ys:List D} : FR (.sl a b n xs) (.sl c d m ys)=some (.sl false false m ys):=ah6
theorem I0 {ys:Option (List D)} : aaS none ys=none:=ah6
theorem Pv {y:Option D} : aaS y none=none:=by cases y<;>rfl
theorem Pb {r:Row} {t:Nat} {b:Option Nat} : stZ x r t s b none=none:=by cases b<;>rfl
end
section
variable {Γ:Env} {g d:Nat} {p:Nat×Nat×Nat}
theorem SQ {f:Nat} {l:Bool} {G:Option (D×Row)->List D->Option (RK×Option Row)} : (Am.ext Γ f l G).nst g=Γ.nst g:=ah6
theorem MZ:(Am.keep d Γ).nst g=Γ.nst g:=ah6
theorem MM {y:Nat} : (Am.vK d y Γ).nst g=Γ.nst g:=ah6
theorem MT {f:Nat} : (Am.Dj f p Γ).nst g=Γ.nst g:=ah6
theorem MG {f:Nat} {q:Grow} : (Am.Dc f q Γ).nst g=Γ.nst g:=ah6
theorem HL:aY.nst g=none:=ah6
theorem Oa:(Am.vp d p Γ).nst g=if g=d then some p else Γ.nst g:=ah6
theorem DN:(Am.vp d p Γ).lends g=Γ.lends g:=ah6
theorem Oc {l:Option (D×Row)} {afq:List D} : (Am.vp d p Γ).sem g l afq=Γ.sem g l afq:=ah6
theorem Ob:(Am.vp d p Γ).own g=Γ.own g:=ah6
theorem HS:(Am.vp d p Γ).hint g=Γ.hint g:=ah6
theorem N9:(Am.vp d p Γ).ins g=Γ.ins g:=ah6
theorem N8:(Am.vp d p Γ).grw g=Γ.grw g:=ah6
theorem Xs {f:Nat} {l:Bool} {G:Option (D×Row)->List D->Option (RK×Option Row)} : (Am.ext Γ f l G).nx=Γ.nx:=ah6
theorem S3:(Am.keep d Γ).nx=Γ.nx:=ah6
theorem S0 {y:Nat} : (Am.vK d y Γ).nx=Γ.nx:=ah6
theorem S1 {f:Nat} : (Am.Dj f p Γ).nx=Γ.nx:=ah6
theorem SX {f:Nat} {q:Grow} : (Am.Dc f q Γ).nx=Γ.nx:=ah6
theorem To:(Am.vp d p Γ).nx=Γ.nx:=ah6
theorem HK:aY.nx.lnd g=none:=ah6
theorem HN:aY.nx.res g=none:=ah6
end
section
variable {Γ:Env} {g d f:Nat} {p:Nat×(Nat->Nat->Nat->Nat->List D->List D->Option (D×List D))}
theorem No:(Am.A7 f p Γ).nx.lnd g=if g=f then some p else Γ.nx.lnd g:=ah6
theorem Nr:(Am.A7 f p Γ).nx.res g=Γ.nx.res g:=ah6
theorem Dw:(Am.A7 f p Γ).lends g=Γ.lends g:=ah6
theorem Ns {l:Option (D×Row)} {afq:List D} : (Am.A7 f p Γ).sem g l afq=Γ.sem g l afq:=ah6
theorem Nq:(Am.A7 f p Γ).own g=Γ.own g:=ah6
theorem Hy:(Am.A7 f p Γ).hint g=Γ.hint g:=ah6
theorem Nn:(Am.A7 f p Γ).ins g=Γ.ins g:=ah6
theorem Nl:(Am.A7 f p Γ).grw g=Γ.grw g:=ah6
theorem Np:(Am.A7 f p Γ).nst g=Γ.nst g:=ah6
end
section
variable {Γ:Env} {g d f:Nat} {p:List D->Option (Nat×Nat×Nat×Nat×Nat×List D)}
theorem N6:(Am.Ba f p Γ).nx.res g=if g=f then some p else Γ.nx.res g:=ah6
theorem N3:(Am.Ba f p Γ).nx.lnd g=Γ.nx.lnd g:=ah6
theorem DM:(Am.Ba f p Γ).lends g=Γ.lends g:=ah6
theorem N7 {l:Option (D×Row)} {afq:List D} : (Am.Ba f p Γ).sem g l afq=Γ.sem g l afq:=ah6
theorem N5:(Am.Ba f p Γ).own g=Γ.own g:=ah6
theorem HR:(Am.Ba f p Γ).hint g=Γ.hint g:=ah6
theorem N2:(Am.Ba f p Γ).ins g=Γ.ins g:=ah6
theorem N1:(Am.Ba f p Γ).grw g=Γ.grw g:=ah6
theorem N4:(Am.Ba f p Γ).nst g=Γ.nst g:=ah6
end
section
variable {Γ:Env} {h:Nat->Option Row} {e x v o g:Nat} {rest:List D}
def PL (Γ:Env) (e:Nat) (h:Nat->Option Row) (g x o:Nat) (rest:List D):Option (Row×Nat×Nat×Nat×List D)->Option bt
 | some (r,ty,s,nv,cs)=>B9 e x r ty s nv cs o (Γ.nx.lnd g) (bm (EH h) rest)
 | none=>none
theorem Gk:pF Γ e h g (.ptr x v o::rest)=PL Γ e h g x o rest (eU h x v):=by
 simp only[pF,PL]
 cases eU h x v<;>rfl
theorem zF {r:Row} {ty s nv:Nat} {cs:List D} : PL Γ e h g x o rest (some (r,ty,s,nv,cs))=B9 e x r ty s nv cs o (Γ.nx.lnd g) (bm (EH h) rest):=ah6
theorem zC {r:Row} {ty s nv:Nat} {cs afq:List D} {p:Nat×(Nat->Nat->Nat->Nat->List D->List D->Option (D×List D))} : B9 e x r ty s nv cs o (some p) (some (afq,[]))=Jf x r ty s o p.1 (bump nv e) (p.2 r.ty ty s o cs afq):=ah6
theorem zD {r:Row} {ty s nv' k:Nat} {d:D} {cs':List D} : Jf x r ty s o k (some nv') (some (d,cs'))=if ((cs'.drop o).take k).all (Bb s)=true then some ⟨d,[(x,some ⟨r.v,r.ty,[.nr ty s nv' (lC k o cs')],false,r.lst,true⟩)]⟩ else none:=ah6
end
end Go.Proofs.YtmcncjgbkobjnaaGreat.Am
namespace Go.Proofs.YtmcncjgbkobjnaaGreat.P
open Go.RowKit
def FU:Nat:=1000000000000000000000000
def mC {σ ρ:Type} (body:σ->Option (σ⊕ρ)):Nat->σ->Option ρ
 | 0,_=>none
 | n+1,s =>
  match body s with
  | some (.inl s')=>mC body n s'
  | some (.inr r)=>some r
  | none=>none
def bf {σ ρ:Type} (body:σ->Option (σ⊕ρ)) (s:σ):Option ρ:=mC body FU s
theorem XJ {σ ρ:Type} {body:σ->Option (σ⊕ρ)} (I:σ->Prop) (μ:σ->Nat) (Q:ρ->Prop)
  (hstep:∀s,I s->(∃s',body s=some (.inl s')∧I s'∧μ s'<μ s)∨(∃r,body s=some (.inr r)∧Q r)):∀(n:Nat) (s:σ),I s->μ s<n->∃r,mC body n s=some r∧Q r:=by
 intro n
 induction n with
 | zero=>intro s _ h;omega
 | succ n ih =>
  intro s hI hμ
  rcases hstep s hI with⟨s',h1,h2,h3⟩|⟨r,h1,h2⟩
  ·obtain⟨r,h4,h5⟩:=ih s' h2 (by omega)
   exact⟨r,by simp only[mC,h1];exact h4,h5⟩
  ·exact⟨r,by simp only[mC,h1],h2⟩
theorem Dx {σ ρ:Type} {body:σ->Option (σ⊕ρ)} (I:σ->Prop) (μ:σ->Nat) (Q:ρ->Prop) {s:σ} (hI:I s) (hμ:μ s<FU)
  (hstep:∀s,I s->(∃s',body s=some (.inl s')∧I s'∧μ s'<μ s)∨(∃r,body s=some (.inr r)∧Q r)):∃r,bf body s=some r∧Q r:=XJ I μ Q hstep FU s hI hμ
def idx {α:Type} (l:List α) (i:Int):Option α:=if 0<=i∧i<l.length then l[i.toNat]? else none
def Bm {α:Type} (l:List α) (a b:Int):Option (List α):=if 0<=a∧a<=b∧b<=l.length then some ((l.drop a.toNat).take (b.toNat-a.toNat)) else none
def Fz {α:Type} (bytes:Nat) (n c:Int) (z:α):Option (List α):=if 0<=n∧n<=c∧c<=maxLen∧c.toNat*bytes<=140737488355328 then some (List.replicate n.toNat z) else none
def lk {α:Type} (bytes:Nat) (l m:List α):Option (List α):=if l.length+m.length<=maxLen∧(l.length+m.length)*bytes<=140737488355328 then some (l++m) else none
def ade {α:Type} (l:List α):List (Bool×α):=l.map fun x=>(false,x)
def Cm (k:IntKind) (x y:Int):Option Int:=if y=0 then none else some (k.wrap (x.tdiv y))
def JX (_:IntKind) (x y:Int):Option Int:=if y=0 then none else some (x.tmod y)
def FI (k:IntKind) (x y:Int):Option Int:=if y<0 then none else some (k.wrap (x*2 ^ (min y.toNat k.bits)))
def Bk (k:IntKind) (x y:Int):Option Int:=if y<0 then none else some (x.fdiv (2 ^ (min y.toNat k.bits)))
def jh (op:BinOp) (k:IntKind) (x y:Int):Int :=
 let a:=BitVec.ofInt k.bits x
 let b:=BitVec.ofInt k.bits y
 match op with
 | .and=>k.wrap (a &&& b).toNat
 | .or=>k.wrap (a ||| b).toNat
 | .xor=>k.wrap (a ^^^ b).toNat
 | _=>k.wrap (a &&& ~~~b).toNat
def td {κ α:Type} [DecidableEq κ] (z:α):List (κ×α)->κ->α
 | [],_=>z
 | (k,v)::m,n=>if k=n then v else td z m n
def UX {κ α:Type} [DecidableEq κ]:List (κ×α)->κ->Bool
 | [],_=>false
 | (k,_)::m,n=>k==n||UX m n
def Kc {κ α:Type} [DecidableEq κ]:List (κ×α)->κ->α->List (κ×α)
 | [],n,v=>[(n,v)]
 | (k,x)::m,n,v=>if k=n then (k,v)::m else (k,x)::Kc m n v
def AP (l:List Int):List Int:=l.mergeSort fun x y=>decide (x<=y)
theorem p6 (l:List Int):(AP l).length=l.length:=List.length_mergeSort l
theorem Iw:AP []=[]:=by simp[AP]
theorem ah {α β:Type} {o:Option α} {f:α->Option β} {r:β} (h:o.bind f=some r):∃a,o=some a∧f a=some r:=by
 cases o with
 | none=>cases h
 | some a=>exact⟨a,rfl,h⟩
theorem adi {α:Type} {b:Bool} {x y r:α} (hb:b=true) (h:(if b=true then x else y)=r):x=r:=by rw[if_pos hb]at h;exact h
theorem adh {α:Type} {b:Bool} {x y r:α} (hb:b=false) (h:(if b=true then x else y)=r):y=r:=by rw[hb]at h;simpa using h
theorem ai {a b:Prop} (x:a) (y:b):a∧b:=⟨x,y⟩
theorem sp {α:Type} {b:Bool} {P1 P2 Q:Prop} {x y r:α} (k:(b=true->P1)->(b=false->P2)->Q) (h:(if b=true then x else y)=r) (h1:b=true->x=r->P1) (h2:b=false->y=r->P2):Q:=k (fun hb=>h1 hb (adi hb h)) fun hb=>h2 hb (adh hb h)
end Go.Proofs.YtmcncjgbkobjnaaGreat.P
namespace Go.Proofs.YtmcncjgbkobjnaaGreat.Am
open Go.RowKit Go.Proofs.YtmcncjgbkobjnaaGreat.P
structure gY (α:Type) where
 cells:α->List D
 size:Nat
 len:∀x,(cells x).length=size
 pos:0<size
 inj:∀x y,cells x=cells y->x=y
def ab {α:Type} (e:gY α):List α->List D
 | []=>[]
 | x::l=>e.cells x++ab e l
section
variable {α β:Type} (e:gY α)
theorem xt:ab e []=[]:=rfl
theorem bn (x:α) (l:List α):ab e (x::l)=e.cells x++ab e l:=rfl
theorem iy:∀l m:List α,ab e (l++m)=ab e l++ab e m
 | [],m=>rfl
 | x::l,m=>by rw[ahn,bn,bn,iy l m,agR]
theorem bu:∀l:List α,(ab e l).length=l.length*e.size
 | []=>by simp[ab]
 | x::l=>by rw[bn,agF,bu l,e.len,afV,ags];omega
theorem ue:∀(l:List α) (i:Nat),(ab e l).drop (i*e.size)=ab e (l.drop i)
 | l,0=>by simp
 | [],i+1=>by simp[ab]
 | x::l,i+1=>by
  rw[bn,aho,<- ue l i,ahg,e.len,ahh (by rw[e.len,ags];omega),ahe]
  congr 1
  rw[ags];omega
theorem eS:∀(l:List α) (i:Nat),(ab e l).take (i*e.size)=ab e (l.take i)
 | l,0=>by simp[ab]
 | [],i+1=>by simp[ab]
 | x::l,i+1=>by
  rw[bn,ahp,bn,agU,e.len,agW (by rw[e.len,ags];omega),<- eS l i]
  congr 2
  rw[ags];omega
theorem sX:∀l m:List α,ab e l=ab e m->l=m
 | [],[],_=>rfl
 | [],y::m,h=>by
  have:=congrArg List.length h
  have hp:=e.pos
  rw[bn,agF,e.len]at this
  simp[ab]at this
  omega
 | x::l,[],h=>by
  have:=congrArg List.length h
  have hp:=e.pos
  rw[bn,agF,e.len]at this
  simp[ab]at this
  omega
 | x::l,y::m,h=>by
  rw[bn,bn]at h
  obtain⟨h1,h2⟩:=List.append_inj h (by rw[e.len,e.len])
  rw[e.inj _ _ h1,sX l m h2]
theorem L5:∀(n:Nat) (x:α),lA n (e.cells x)=ab e (List.replicate n x)
 | 0,x=>by simp[lA,ab]
 | n+1,x=>by rw[agq,bn,<- L5 n x];simp[lA,List.replicate_succ]
end
def eI (k:IntKind):gY Int:=⟨fun n=>[.int k n],1,fun _=>rfl,by decide,fun x y h=>by simpa using h⟩
def lX:gY Bool:=⟨fun n=>[.bool n],1,fun _=>rfl,by decide,fun x y h=>by simpa using h⟩
def abX:gY ByteArray:=⟨fun n=>[.str n],1,fun _=>rfl,by decide,fun x y h=>by simpa using h⟩
def kV {α:Type} (e:gY α):gY (List α):=⟨fun l=>[.sl false false l.length (ab e l)],1,fun _=>rfl,by decide,fun x y h=>by
 simp only[afT,D.sl.injEq,true_and,and_true]at h
 exact sX e _ _ h.2⟩
def jv {α β:Type} (e:gY α) (f:gY β):gY (α×β):=⟨fun x=>e.cells x.1++f.cells x.2,e.size+f.size,fun x=>by rw[agF,e.len,f.len],afy e.pos (Nat.le_add_right _ _),fun x y h=>by
 obtain⟨h1,h2⟩:=List.append_inj h (by rw[e.len,e.len])
 exact Prod.ext (e.inj _ _ h1) (f.inj _ _ h2)⟩
def wo {α β:Type} (e:gY β) (f:α->β) (hf:∀x y,f x=f y->x=y):gY α:=⟨fun x=>e.cells (f x),e.size,fun x=>e.len _,e.pos,fun x y h=>hf _ _ (e.inj _ _ h)⟩
structure Arg (α:Type) where
 d:α->D
 inj:∀x y,d x=d y->x=y
def aI (k:IntKind):Arg Int:=⟨fun n =>.int k n,fun x y h=>by simpa using h⟩
def ac6:Arg Bool:=⟨fun n =>.bool n,fun x y h=>by simpa using h⟩
def po {α:Type} (e:gY α):Arg (List α):=⟨fun l =>.sl false false l.length (ab e l),fun x y h=>by
 simp only[D.sl.injEq,true_and]at h
 exact sX e _ _ h.2⟩
def bL {α:Type} (e:gY α):Arg α:=⟨fun x =>.agg (e.cells x),fun x y h=>e.inj _ _ (by simpa using h)⟩
theorem xj (k:IntKind) (n:Int):(eI k).cells n=[.int k n]:=ah6
theorem zS (n:Bool):lX.cells n=[.bool n]:=ah6
theorem CD (n:ByteArray):abX.cells n=[.str n]:=ah6
theorem GS {α:Type} (e:gY α) (l:List α):(kV e).cells l=[.sl false false l.length (ab e l)]:=ah6
structure jM (α:Type) where
 ds:α->List D
 inj:∀x y,ds x=ds y->x=y
def as0:jM Unit:=⟨fun _=>[],fun _ _ _=>rfl⟩
def eQ {α:Type} (a:Arg α):jM α:=⟨fun x=>[a.d x],fun x y h=>a.inj _ _ (by simpa using h)⟩
def kp {α β:Type} (a:Arg α) (b:jM β):jM (α×β):=⟨fun x=>a.d x.1::b.ds x.2,fun x y h=>by
 simp only[afT]at h
 exact Prod.ext (a.inj _ _ h.1) (b.inj _ _ h.2)⟩
def fc {α β:Type} (A:jM α) (F:α->Option β) (R:β->RK):Option (D×Row)->List D->Option (RK×Option Row):=fun lent ds =>
 match lent with
 | none=>open Classical in if h:∃a,A.ds a=ds then (F (Classical.choose h)).map fun r=>(R r,none) else none
 | some _=>none
theorem aJ {α β:Type} (A:jM α) (F:α->Option β) (R:β->RK) (a:α):fc A F R none (A.ds a)=(F a).map fun r=>(R r,none):=by
 have h:∃b,A.ds b=A.ds a:=⟨a,rfl⟩
 simp only[fc]
 rw[dif_pos h,A.inj _ _ (Classical.choose_spec h)]
theorem pP {α β:Type} {A:jM α} {F:α->Option β} {R:β->RK} {lent:Option (D×Row)} {ds:List D} {rk:RK} {out:Option Row} (h:fc A F R lent ds=some (rk,out)):lent=none∧out=none∧∃a r,ds=A.ds a∧F a=some r∧rk=R r:=by
 unfold fc at h
 split at h
 ·split at h
  ·rename_i he
   rw[aft]at h
   obtain⟨r,h1,h2⟩:=h
   simp only[Prod.mk.injEq]at h2
   obtain⟨rfl,rfl⟩:=h2
   exact⟨rfl,rfl,_,r,(Classical.choose_spec he).symm,h1,rfl⟩
  ·cases h
 ·cases h
structure bP (P:Program) (f:FuncId) (G:Option (D×Row)->List D->Option (RK×Option Row)):Prop where
 calls:∀lent afq rk out,G lent afq=some (rk,out)->pb P f lent afq rk out
 callable:dy P f
theorem bP.of {P:Program} {T:Nat->Option Ty} {Γ:Env} (hT:gm P T) (hΓ:bA P Γ) (hm:P.follows .mixedOrders=true) {α β:Type} {A:jM α} {F:α->Option β} {R:β->RK} {mode:Mode} {f:FuncId} {fn:Func} (hf:P.funcs[f]? = some fn) (hok:(match fn.body with|some c=>codeOk c|none=>true)=true)
  (hc:(fn.name == "runtime.NumGoroutine")=false∧fn.body.isNone=false) (hn:∀a,(A.ds a).length<=fn.ntmps) (h:∀a r,F a=some r->aW mode T Γ FU fn none (A.ds a)=some (R r,none)):bP P f (fc A F R) where
 calls lent afq rk out hg:=by
  obtain⟨rfl,rfl,a,r,rfl,hr,rfl⟩:=pP hg
  exact iJ hT hΓ hm hf hok (hn a) rfl (h a r hr)
 callable:=⟨fn,hf,hc⟩
theorem bA.add {P:Program} {Γ:Env} (hΓ:bA P Γ) {f:Nat} {G:Option (D×Row)->List D->Option (RK×Option Row)} (h:bP P f G) (l:Bool):bA P (Am.ext Γ f l G):=hΓ.ext h.calls h.callable
section
variable {T:Nat->Option Ty} {Γ:Env} {N e:Nat} {ws:List W} {Q:Kt} {t:Nat->D} {h:Nat->Option Row}
def LK {σ ρ:Type} (Rel:σ->(Nat->D)->(Nat->Option Row)->Nat->Prop) (RelX:ρ->Ex->(Nat->D)->(Nat->Option Row)->Nat->Prop) (c:σ⊕ρ):Kt:=fun x t h e =>
 match x with
 | .normal=>∃s',c=.inl s'∧Rel s' t h e
 | x=>∃o,c=.inr o∧RelX o x t h e
theorem gV {σ ρ:Type} {Rel:σ->(Nat->D)->(Nat->Option Row)->Nat->Prop} {RelX:ρ->Ex->(Nat->D)->(Nat->Option Row)->Nat->Prop} {s':σ} (k:Rel s' t h e):LK Rel RelX (.inl s') .normal t h e:=⟨s',rfl,k⟩
theorem jo {σ ρ:Type} {Rel:σ->(Nat->D)->(Nat->Option Row)->Nat->Prop} {RelX:ρ->Ex->(Nat->D)->(Nat->Option Row)->Nat->Prop} {o:ρ} {n:Nat} (k:RelX o (.exit n) t h e):LK Rel RelX (.inr o) (.exit n) t h e:=⟨o,rfl,k⟩
theorem rT {σ ρ:Type} {Rel:σ->(Nat->D)->(Nat->Option Row)->Nat->Prop} {RelX:ρ->Ex->(Nat->D)->(Nat->Option Row)->Nat->Prop} {o:ρ} (k:RelX o .ret t h e):LK Rel RelX (.inr o) .ret t h e:=⟨o,rfl,k⟩
theorem ay {σ ρ:Type} {body:σ->Option (σ⊕ρ)} {b:Code} (Rel:σ->(Nat->D)->(Nat->Option Row)->Nat->Prop) (RelX:ρ->Ex->(Nat->D)->(Nat->Option Row)->Nat->Prop) {s0:σ} {out:ρ} (hL:bf body s0=some out) (h0:Rel s0 t h e)
  (hstep:∀s t h e,Rel s t h e->∀c,body s=some c->cA T Γ N FU [.code b] (LK Rel RelX c) .normal t h e)
  (hexit:∀x t h e,RelX out x t h e->cA T Γ N FU ws Q x t h e):TB T Γ N FU b ws Q t h e:=by
 have key:∀(n:Nat) (s:σ) (t:Nat->D) (h:Nat->Option Row) (e:Nat),Rel s t h e->mC body n s=some out->∃x s',iter (fi T Γ N FU b) n ⟨t,h,e⟩=some (x,s')∧cA T Γ N FU ws Q x s'.t s'.h s'.e:=by
  intro n
  induction n with
  | zero=>intro s t h e _ hi;cases hi
  | succ n ih =>
   intro s t h e hR hi
   simp only[mC]at hi
   cases hb:body s with
   | none=>rw[hb]at hi;cases hi
   | some c =>
    rw[hb]at hi
    obtain⟨x,s1,h1,h2⟩:=KA _ _ _ _ _ (show Pu T Γ N FU b t h e (LK Rel RelX c) from hstep s t h e hR c hb)
    simp only[iter,h1]
    cases x with
    | normal =>
     obtain⟨s',rfl,h4⟩:=h2
     exact ih s' s1.t s1.h s1.e h4 hi
    | exit m =>
     obtain⟨o,rfl,h4⟩:=h2
     simp only[afE]at hi
     subst hi
     exact⟨_,_,rfl,hexit _ _ _ _ h4⟩
    | ret =>
     obtain⟨o,rfl,h4⟩:=h2
     simp only[afE]at hi
     subst hi
     exact⟨_,_,rfl,hexit _ _ _ _ h4⟩
 exact key FU s0 t h e h0 hL
theorem yx {d:D} {g:Nat} {A B A' B':(Nat->D)->Prop} (hk:RE d t g A B) (h1:∀t,A t->A' t) (h2:∀t,B t->B' t):RE d t g A' B':=by
 cases d with
 | bool b=>exact⟨fun hb=>h1 _ (hk.1 hb),fun hb=>h2 _ (hk.2 hb)⟩
 | _=>exact hk
theorem EZ {d:D} {g:Nat} {A B S A' B' S':(Nat->D)->Prop} (hk:wpS d t g A B S) (h1:∀t,A t->A' t) (h2:∀t,B t->B' t) (h3:∀t,S t->S' t):wpS d t g A' B' S':=by
 unfold wpS at hk ⊢
 split at hk
 ·exact h3 _ hk
 ·exact yx hk h1 h2
theorem DP {α:Type} {x:Option α} {K K':α->Prop} (hk:nY x K) (h1:∀a,K a->K' a):nY x K':=by
 cases x with
 | none=>exact hk
 | some a=>exact h1 a hk
theorem Pt {ops:List Oper} {gd:Option (Nat×Bool)} {A B A' B':(Nat->D)->Prop} (hk:ZU ops t gd A B) (h1:∀t,A t->A' t) (h2:∀t,B t->B' t):ZU ops t gd A' B':=by
 unfold ZU at hk ⊢
 split
 ·exact h1 _ hk
 ·rename_i j want
  refine DP hk fun g hg=>EZ hg ?_ ?_ h2
  ·intro t ht;cases want<;>simp_all
  ·intro t ht;cases want<;>simp_all
theorem yz {o:Oper} {K K':(Nat->D)->bt->Prop} (hk:Ps T Γ e o t h K) (h1:∀t E,K t E->K' t E):Ps T Γ e o t h K':=by
 unfold Ps at hk ⊢
 split
 ·rename_i ho
  rw[ho]at hk
  exact yx hk (fun _ h=>h1 _ _ h) (fun _ h=>h1 _ _ h)
 ·rename_i hne
  split at hk
  ·rename_i c a b ho;exact absurd ho (hne _ _ _)
  ·exact DP hk (fun _ h=>h1 _ _ h)
theorem u7 {ops:List Oper} {K K':(Nat->D)->(Nat->Option Row)->Prop} (h1:∀t h,K t h->K' t h):∀(l:List Oper) (t:Nat->D) (h:Nat->Option Row),EA T Γ N e ops l t h K->EA T Γ N e ops l t h K'
 | [],t,h,hk=>h1 _ _ hk
 | o::l,t,h,hk=>by
  unfold EA at hk ⊢
  exact⟨hk.1,Pt hk.2 (fun t ht=>yz ht fun t E hE=>u7 h1 l _ _ hE) (fun t ht=>u7 h1 l _ _ ht)⟩
theorem u4 {ops:List Oper} {K K':(Nat->D)->(Nat->Option Row)->List jg->Prop} (h1:∀t h fs,K t h fs->K' t h fs):∀(l:List Oper) (t:Nat->D) (h:Nat->Option Row) (fs:List jg),runK T Γ N e ops l t h fs K->runK T Γ N e ops l t h fs K'
 | [],t,h,fs,hk=>h1 _ _ _ hk
 | o::l,t,h,fs,hk=>by
  unfold runK at hk ⊢
  exact⟨hk.1,Pt hk.2 (fun t ht=>yz ht fun t E hE=>u4 h1 l _ _ _ hE) (fun t ht=>u4 h1 l _ _ _ ht)⟩
theorem ZW {ops:Array Oper} {draw:Bool} {K K':(Nat->D)->(Nat->Option Row)->Prop} (hk:wpR T Γ N ops draw t h e K) (h1:∀t h,K t h->K' t h):wpR T Γ N ops draw t h e K':=by
 unfold wpR at hk ⊢
 cases draw with
 | true=>exact u4 (fun t h fs hh=>⟨hh.1,h1 _ _ hh.2⟩) _ _ _ _ hk
 | false=>exact u7 h1 _ _ _ hk
theorem V2 {F:Nat} : ∀(c:Code) (t:Nat->D) (h:Nat->Option Row) (e:Nat) (K K':Kt),Pu T Γ N F c t h e K->(∀x t h e,K x t h e->K' x t h e)->Pu T Γ N F c t h e K':=by
 intro c
 induction c with
 | skip=>intro t h e K K' hk hm;exact hm _ _ _ _ hk
 | region i ops draw=>intro t h e K K' hk hm;exact ZW hk fun t h hh=>hm _ _ _ _ hh
 | seq a b iha ihb =>
  intro t h e K K' hk hm
  refine iha _ _ _ _ _ hk fun x t h e hx =>?_
  cases x with
  | normal=>exact ihb _ _ _ _ _ hx hm
  | exit n=>exact hm _ _ _ _ hx
  | ret=>exact hm _ _ _ _ hx
 | cond c x y ihx ihy =>
  intro t h e K K' hk hm
  unfold Pu at hk ⊢
  cases c with
  | tmp g=>exact yx hk (fun t ht=>ihx _ _ _ _ _ ht hm) (fun t ht=>ihy _ _ _ _ _ ht hm)
  | const v =>
   cases v with
   | bool b =>
    cases b with
    | true=>exact ihx _ _ _ _ _ hk hm
    | false=>exact ihy _ _ _ _ _ hk hm
   | _=>exact hk
  | _=>exact hk
 | block id b ih =>
  intro t h e K K' hk hm
  refine ih _ _ _ _ _ hk fun x t h e hx =>?_
  cases x with
  | normal=>exact hm _ _ _ _ hx
  | ret=>exact hm _ _ _ _ hx
  | exit n =>
   unfold WA at hx ⊢
   simp only at hx ⊢
   split at hx
   ·rename_i hn;rw[if_pos hn];exact hm _ _ _ _ hx
   ·rename_i hn;rw[if_neg hn];exact hm _ _ _ _ hx
 | loop b ih =>
  intro t h e K K' hk hm
  obtain⟨x,s,h1,h2⟩:=hk
  exact⟨x,s,h1,hm _ _ _ _ h2⟩
 | exit id=>intro t h e K K' hk hm;exact hm _ _ _ _ hk
 | ret=>intro t h e K K' hk hm;exact hm _ _ _ _ hk
 | _=>intro t h e K K' hk;exact hk.elim
def CK {σ:Type} (J:σ->(Nat->D)->(Nat->Option Row)->Nat->Prop) (P:σ->Prop) (R:Kt):Kt:=fun x t h e =>
 match x with
 | .normal=>∃s,P s∧J s t h e
 | x=>R x t h e
theorem an {σ:Type} {J:σ->(Nat->D)->(Nat->Option Row)->Nat->Prop} {P:σ->Prop} {R:Kt} : CK J P R .normal t h e = ∃s,P s∧J s t h e:=ah6
end
section
variable {h:Nat->Option Row}
theorem Gn {k:IntKind} {n:Int} : canon (.int k n)=.int k n:=ah6
theorem Ce {b:Bool} : canon (.bool b)=.bool b:=ah6
theorem Gq {b:ByteArray} : canon (.str b)=.str b:=ah6
theorem K9 {a b:Bool} {n:Nat} {xs:List D} : canon (.sl a b n xs)=.sl false false n xs:=ah6
theorem Cb {k:IntKind} {n:Int} : eX (.int k n)=.int k n:=ah6
theorem zG {b:Bool} : eX (.bool b)=.bool b:=ah6
theorem Cd {b:ByteArray} : eX (.str b)=.str b:=ah6
theorem Gm {a b:Bool} {n:Nat} {xs:List D} : eX (.sl a b n xs)=.sl false false n xs:=ah6
theorem Ca {xs:List D} : eX (.agg xs)=.agg (xs.map canon):=ah6
def clB (x s o n:Nat):Option Row->Option (D×List Nat)
 | some r=>if o+n*s<=r.cells.length then some (.sl false false n ((r.cells.drop o).take (n*s)),[x]) else none
 | none=>none
theorem Lk {x s o n:Nat} {r:Row} : clB x s o n (some r)=if o+n*s<=r.cells.length then some (.sl false false n ((r.cells.drop o).take (n*s)),[x]) else none:=ah6
def clP (x o:Nat):Option Row->Option (D×List Nat)
 | some r=>if o<=r.cells.length then some (.ip (r.cells.drop o),[x]) else none
 | none=>none
theorem Lr {x o:Nat} {r:Row} : clP x o (some r)=if o<=r.cells.length then some (.ip (r.cells.drop o),[x]) else none:=ah6
theorem Lg {k:IntKind} {n:Int} : bE h (.int k n)=some (.int k n,[]):=ah6
theorem Gs {b:Bool} : bE h (.bool b)=some (.bool b,[]):=ah6
theorem Lj {b:ByteArray} : bE h (.str b)=some (.str b,[]):=ah6
theorem Sv {a b:Bool} {n:Nat} {xs:List D} : bE h (.sl a b n xs)=some (.sl false false n xs,[]):=ah6
theorem Lc {xs:List D} : bE h (.agg xs)=some (.agg (xs.map canon),[]):=ah6
theorem Ss {xs:List D} : bE h (.ip xs)=some (.ip xs,[]):=ah6
theorem Sr {f:Nat} : bE h (.fn f)=some (.fn f,[]):=ah6
theorem Le {x v s o n:Nat} : bE h (.buf x v s o n)=clB x s o n (live h x v):=by
 simp only[bE,aN,cY]
 cases live h x v with
 | none=>rfl
 | some r=>by_cases hc:o+n*s<=r.cells.length<;>simp[clB,hc,canon]
theorem Li {x v o:Nat} : bE h (.ptr x v o)=clP x o (live h x v):=by
 simp only[bE,aN]
 cases live h x v with
 | none=>rfl
 | some r=>simp only[clP]
theorem WY {k:IntKind} {n:Int} : dY h (.int k n)=some ([.int k n],[]):=ah6
theorem Sx {b:Bool} : dY h (.bool b)=some ([.bool b],[]):=ah6
theorem WZ {b:ByteArray} : dY h (.str b)=some ([.str b],[]):=ah6
theorem aa4 {a b:Bool} {n:Nat} {xs:List D} : dY h (.sl a b n xs)=some ([.sl a b n xs],[]):=ah6
theorem WW {xs:List D} : dY h (.agg xs)=some (xs,[]):=ah6
def cvB:Option (D×List Nat)->Option (List D×List Nat)
 | some (d,fr)=>some ([d],fr)
 | none=>none
theorem LA {d:D} {fr:List Nat} : cvB (some (d,fr))=some ([d],fr):=ah6
theorem WX {x v s o n:Nat} : dY h (.buf x v s o n)=cvB (clB x s o n (live h x v)):=by
 simp only[dY,cY]
 cases live h x v with
 | none=>rfl
 | some r=>by_cases hc:o+n*s<=r.cells.length<;>simp[clB,cvB,hc]
def clF (h:Nat->Option Row):Option (D×List Nat)->Option bt
 | some (d,fr)=>some ⟨d,gG h fr⟩
 | none=>none
theorem Lm {d:D} {fr:List Nat} : clF h (some (d,fr))=some ⟨d,gG h fr⟩:=ah6
theorem R1 {x v s o n:Nat} : gu h (.buf x v s o n)=clF h (clB x s o n (live h x v)):=by
 simp only[gu,nG,cY]
 cases live h x v with
 | none=>rfl
 | some r=>by_cases hc:o+n*s<=r.cells.length<;>simp[clB,clF,hc,canon,eX]
variable {Γ:Env} {f g e:Nat} {l:Bool} {G:Option (D×Row)->List D->Option (RK×Option Row)} {lent:Option (D×Row)} {afq:List D} {dst:Option Nat} {fr:List Nat}
theorem Ha:(Am.ext Γ f l G).lends g=if g=f then l else Γ.lends g:=ah6
theorem SS:(Am.ext Γ f l G).sem g lent afq=if g=f then G lent afq else Γ.sem g lent afq:=ah6
theorem SR {d:Nat} : (Am.ext Γ f l G).own d=Γ.own d:=ah6
theorem HM {d:Nat} : aY.own d=true:=ah6
theorem M0 {d i:Nat} : (Am.keep d Γ).own i=(i != d&&Γ.own i):=ah6
theorem Dl {d i:Nat} : (Am.keep d Γ).lends i=Γ.lends i:=ah6
theorem M3 {d i:Nat} : (Am.keep d Γ).sem i lent afq=Γ.sem i lent afq:=ah6
def A0 (lends:Bool) (Γ:Env) (h:Nat->Option Row) (e:Nat) (dst:Option Nat) (g:Nat) (args:List D):Option bt :=
 if lends then
  match args with
  | .buf x v s o n::rest=>nF Γ h e dst g x v (.buf 0 0 s o n) rest
  | .ptr x v o::rest=>nF Γ h e dst g x v (.ptr 0 0 o) rest
  | .mp x v::rest=>nF Γ h e dst g x v (.mp 0 0) rest
  | _=>none
 else sD Γ h e dst g args
def aab (p:Option (Nat×Nat×Nat)) (Γ:Env) (h:Nat->Option Row) (e:Nat) (dst:Option Nat) (g:Nat) (args:List D):Option bt :=
 match p with
 | some p=>rP h e dst p args
 | none =>
  match Γ.grw g with
  | some p=>rO h p args
  | none=>A0 (Γ.lends g) Γ h e dst g args
def abV (p:Option Grow) (Γ:Env) (h:Nat->Option Row) (e:Nat) (dst:Option Nat) (g:Nat) (args:List D):Option bt :=
 match p with
 | some p=>rO h p args
 | none=>A0 (Γ.lends g) Γ h e dst g args
theorem Gf {args:List D} : aab none Γ h e dst g args=abV (Γ.grw g) Γ h e dst g args:=ah6
theorem Gc {args:List D} : abV none Γ h e dst g args=A0 (Γ.lends g) Γ h e dst g args:=ah6
theorem Gd {p:Grow} {args:List D} : abV (some p) Γ h e dst g args=rO h p args:=ah6
theorem SO {f:Nat} {l:Bool} {G:Option (D×Row)->List D->Option (RK×Option Row)} : (Am.ext Γ f l G).grw g=Γ.grw g:=ah6
theorem MX {d:Nat} : (Am.keep d Γ).grw g=Γ.grw g:=ah6
theorem MK {d y:Nat} : (Am.vK d y Γ).grw g=Γ.grw g:=ah6
theorem MR {f:Nat} {p:Nat×Nat×Nat} : (Am.Dj f p Γ).grw g=Γ.grw g:=ah6
theorem HI:aY.grw g=none:=ah6
theorem ME {f:Nat} {p:Grow} : (Am.Dc f p Γ).grw g=if g=f then some p else Γ.grw g:=ah6
theorem MF {f:Nat} {p:Grow} : (Am.Dc f p Γ).ins g=Γ.ins g:=ah6
theorem Dd {f:Nat} {p:Grow} : (Am.Dc f p Γ).lends g=Γ.lends g:=ah6
theorem MI {f:Nat} {p:Grow} {l:Option (D×Row)} {afq:List D} : (Am.Dc f p Γ).sem g l afq=Γ.sem g l afq:=ah6
theorem MH {f:Nat} {p:Grow} {d:Nat} : (Am.Dc f p Γ).own d=Γ.own d:=ah6
theorem Hl {f:Nat} {p:Grow} {d:Nat} : (Am.Dc f p Γ).hint d=Γ.hint d:=ah6
def lvP (v:Nat):Option Row->Option (Row×Nat×Nat×Nat)
 | some r=>if r.v=v∧r.mp=true then (match r.cells with | [.ph y s n]=>some (r,y,s,n)|_=>none) else none
 | none=>none
theorem Nj {x v:Nat} : kd h x v=lvP v (h x):=by
 unfold kd lvP
 cases h x<;>rfl
theorem Nv {v ty y s n:Nat} {fz lst:Bool} : lvP v (some ⟨v,ty,[.ph y s n],fz,lst,true⟩)=some (⟨v,ty,[.ph y s n],fz,lst,true⟩,y,s,n):=by simp[lvP]
def WE (p:Grow) (y k:Nat) (rest:List D):Option (Row×Nat×Nat×Nat)->Option Row->Option bt
 | some (ry,k',s,n),some r =>
   if k'=k∧k=PK+y∧y<PK∧ry.fz=false∧r.mp=false∧r.fz=false∧r.lst=true∧s=p.k∧r.ty=p.ty∧r.cells.length=n*p.k∧(n+1)*p.bytes<=140737488355328 then
    match p.sem r.cells rest with
    | some cs=>some ⟨.int .i64 (n:Int),[(k,some ⟨r.v,p.ty,r.cells++cs,false,true,false⟩),(y,some ⟨ry.v,ry.ty,[.ph k p.k (n+1)],false,false,true⟩)]⟩
    | none=>none
   else none
 | _,_=>none
theorem Sh {p:Grow} {y v k:Nat} {rest:List D} : rO h p (.pm y v k::rest)=WE p y k rest (kd h y v) (h k):=ah6
def aa3 (k y v ty e' ty' k' n:Nat) (cells:List D):Option (List D)->Option bt
 | some cs=>some ⟨.int .i64 (n:Int),[(k,some ⟨e',ty',cells++cs,false,true,false⟩),(y,some ⟨v,ty,[.ph k k' (n+1)],false,false,true⟩)]⟩
 | none=>none
theorem B0 {ty' k' by_:Nat} {sem:List D->List D->Option (List D)} {y k:Nat} {rest:List D} {v ty s n e' tyr:Nat} {cells:List D} : WE ⟨ty',k',by_,sem⟩ y k rest (some (⟨v,ty,[.ph k s n],false,false,true⟩,k,s,n)) (some ⟨e',tyr,cells,false,true,false⟩) =
  if k=1000000+y∧y<1000000∧s=k'∧tyr=ty'∧cells.length=n*k'∧(n+1)*by_<=140737488355328 then aa3 k y v ty e' ty' k' n cells (sem cells rest) else none:=by
 simp only[WE,PK,true_and]
 cases sem cells rest<;>rfl
theorem B1 {k y v ty e' ty' k' n:Nat} {cells cs:List D} : aa3 k y v ty e' ty' k' n cells (some cs)=some ⟨.int .i64 (n:Int),[(k,some ⟨e',ty',cells++cs,false,true,false⟩),(y,some ⟨v,ty,[.ph k k' (n+1)],false,false,true⟩)]⟩:=ah6
theorem Gg {p:Nat×Nat×Nat} {args:List D} : aab (some p) Γ h e dst g args=rP h e dst p args:=ah6
theorem SP {f:Nat} {l:Bool} {G:Option (D×Row)->List D->Option (RK×Option Row)} : (Am.ext Γ f l G).ins g=Γ.ins g:=ah6
theorem MY {d:Nat} : (Am.keep d Γ).ins g=Γ.ins g:=ah6
theorem ML {d y:Nat} : (Am.vK d y Γ).ins g=Γ.ins g:=ah6
theorem HJ:aY.ins g=none:=ah6
theorem MS {f:Nat} {p:Nat×Nat×Nat} : (Am.Dj f p Γ).ins g=if g=f then some p else Γ.ins g:=ah6
theorem Dk {f:Nat} {p:Nat×Nat×Nat} : (Am.Dj f p Γ).lends g=Γ.lends g:=ah6
theorem MV {f:Nat} {p:Nat×Nat×Nat} {l:Option (D×Row)} {afq:List D} : (Am.Dj f p Γ).sem g l afq=Γ.sem g l afq:=ah6
theorem MU {f:Nat} {p:Nat×Nat×Nat} {d:Nat} : (Am.Dj f p Γ).own d=Γ.own d:=ah6
theorem Ho {f:Nat} {p:Nat×Nat×Nat} {d:Nat} : (Am.Dj f p Γ).hint d=Γ.hint d:=ah6
def WG (ty k by_ x y s s' o o' n m:Nat) (i:Int) (e:Nat) (d:Nat):Option Row->Option Row->Option bt
 | some r,some r' =>
   if r.fz=false∧r'.fz=false∧r.lst=true∧r'.lst=true∧x≠y∧s=k∧s'=k∧r.ty=ty∧r'.ty=ty∧o=0∧o'=0∧r.cells.length=n*k∧r'.cells.length=m*k∧0<=i∧i<=n∧0<m∧(n+m)*by_<=140737488355328 then
    some ⟨.buf d e k 0 (n+m),[(y,none),(x,none),(d,some ⟨e,ty,r.cells.take (i.toNat*k)++(r'.cells++r.cells.drop (i.toNat*k)),false,true,false⟩)]⟩
   else none
 | _,_=>none
theorem Si {ty k by_ x v s o n y v' s' o' m d:Nat} {i:Int} : rP h e (some d) (ty,k,by_) [.buf x v s o n,.int .i64 i,.buf y v' s' o' m]=WG ty k by_ x y s s' o o' n m i e d (live h x v) (live h y v'):=by
 simp only[rP,WG]
 cases live h x v with
 | none=>rfl
 | some r=>cases live h y v'<;>rfl
theorem B2 {ty k by_ x y s s' o o' n m : Nat} {i : Int} {d : Nat} {r r' : Row} : WG ty k by_ x y s s' o o' n m i e d (some r) (some r') = if r.fz = false ∧ r'.fz = false ∧ r.lst = true ∧ r'.lst = true ∧ x ≠ y ∧ s = k ∧ s' = k ∧ r.ty = ty ∧ r'.ty = ty ∧ o = 0 ∧ o' = 0 ∧ r.cells.length = n * k ∧ r'.cells.length = m * k ∧ 0 <= i ∧ i <= n ∧ 0 < m ∧ (n + m) * by_ <= 140737488355328 then
        some ⟨.buf d e k 0 (n + m), [(y, none), (x, none), (d, some ⟨e, ty, r.cells.take (i.toNat * k) ++ (r'.cells ++ r.cells.drop (i.toNat * k)), false, true, false⟩)]⟩
      else none := Eq.trans rfl rfl
theorem Sk {args:List D} : gn Γ h e dst (.fn g) args=aab (Γ.ins g) Γ h e dst g args:=by
 simp only[gn,aab,A0]
 cases Γ.ins g with
 | none=>cases Γ.grw g<;>rfl
 | some p=>rfl
def UB (h:Nat->Option Row) (e:Nat) (dst:Option Nat) (fr:List Nat):Option (RK×Option Row)->Option bt
 | some (.clean r,_)=>some ⟨r,if fI r then [] else gG h fr⟩
 | some (.fresh ty s n cells,_) =>
  match dst with
  | some d=>if fr.contains d=false then some ⟨.buf d e s 0 n,(if nQ cells then [] else gG h fr)++[(d,some ⟨e,ty,cells,false,true,false⟩)]⟩ else none
  | none=>none
 | _=>none
def aaa (Γ:Env) (h:Nat->Option Row) (e:Nat) (dst:Option Nat) (g:Nat):Option (List D×List Nat)->Option bt
 | some (afq,fr)=>UB h e dst fr (Γ.sem g none afq)
 | none=>none
theorem Gh {args:List D} : A0 false Γ h e dst g args=aaa Γ h e dst g (bm h args):=by
 simp only[A0,af5,if_false,sD,aaa]
 cases bm h args with
 | none=>rfl
 | some p =>
  obtain⟨afq,fr⟩:=p
  simp only
  cases hs:Γ.sem g none afq with
  | none=>rfl
  | some q =>
   obtain⟨rk,o⟩:=q
   cases rk<;>rfl
theorem Gb:aaa Γ h e dst g (some (afq,fr))=UB h e dst fr (Γ.sem g none afq):=ah6
def Xx (h:Nat->Option Row) (fr:List Nat):Bool->List (Nat×Option Row)
 | true=>[]
 | false=>gG h fr
theorem Hk:Xx h fr true=[]:=ah6
theorem C1:Xx h fr false=gG h fr:=ah6
theorem Mm {b:Bool} : Xx h [] b=[]:=by cases b<;>rfl
theorem B6 {r:D} {o:Option Row} : UB h e dst fr (some (.clean r,o))=some ⟨r,Xx h fr (fI r)⟩:=by
 simp only[UB]
 cases fI r<;>rfl
theorem SU:gG h []=[]:=ah6
theorem Mn {x:Nat} : gG h (x::fr)=(x,(h x).map pM)::gG h fr:=ah6
theorem XA {v ty:Nat} {cells:List D} {lst mp:Bool} : pM ⟨v,ty,cells,true,lst,mp⟩=⟨v,ty,cells,true,lst,mp⟩:=ah6
theorem Xy {v ty:Nat} {cells:List D} {lst mp:Bool} : pM ⟨v,ty,cells,false,lst,mp⟩=⟨v,ty,cells,true,true,mp⟩:=ah6
theorem Gt:bm h []=some ([],[]):=ah6
def caC (p:Option (D×List Nat)) (q:Option (List D×List Nat)):Option (List D×List Nat) :=
 match p,q with
 | some (d',fr),some (ds',fr')=>some (d'::ds',fr++fr')
 | _,_=>none
theorem KW {d:D} {fr fr':List Nat} {ds:List D} : caC (some (d,fr)) (some (ds,fr'))=some (d::ds,fr++fr'):=ah6
theorem Cf {d:D} {ds:List D} : bm h (d::ds)=caC (bE h d) (bm h ds):=by
 simp only[bm]
 cases bE h d with
 | none=>rfl
 | some p=>cases bm h ds<;>rfl
variable {T:Nat->Option Ty} {s:St} {rs:List ResultVar} {r:ResultVar}
theorem OH:rF T s []=some ([],[]):=ah6
theorem Il:rF T s (r::rs)=caC (OF T s r) (rF T s rs):=by
 simp only[rF]
 cases OF T s r with
 | none=>rfl
 | some p=>cases rF T s rs<;>rfl
theorem OG {t:Nat->D} {i:Nat} : OF T ⟨t,h,e⟩ (.tmp i)=bE h (t i):=ah6
def aco (T:Nat->Option Ty) (h:Nat->Option Row) (d:D) (τ:Option Ty):Option (D×List Nat) :=
 match τ,d with
 | some τ,.ptr x v o=>match df τ h (.ptr x v o) with|some E=>some (eX E.val,[])|none=>none
 | _,_=>none
theorem Ij {t:Nat->D} {i ty:Nat} : OF T ⟨t,h,e⟩ (.cell i ty)=aco T h (t i) (T ty):=ah6
def acp:Option bt->Option (D×List Nat)
 | some E=>some (eX E.val,[])
 | none=>none
theorem Ik {d:D} {w:List (Nat×Option Row)} : acp (some ⟨d,w⟩)=some (eX d,[]):=ah6
theorem OE {τ:Ty} {x v o:Nat} : aco T h (.ptr x v o) (some τ)=acp (df τ h (.ptr x v o)):=by
 simp only[aco,acp]
def abZ (p:Option (List D×List Nat)):Option (RK×Option Row) :=
 match p with
 | some (ds,_)=>some (.clean (jZ ds),none)
 | none=>none
theorem GX {ds:List D} {fr:List Nat} : abZ (some (ds,fr))=some (.clean (jZ ds),none):=ah6
theorem CR:eZ .clean T none rs s=abZ (rF T s rs):=by
 simp only[eZ,nP,iP,Yh,abZ]
 cases rF T s rs<;>rfl
theorem B7 {ty sz n d:Nat} {cells:List D} {o:Option Row} : UB h e (some d) fr (some (.fresh ty sz n cells,o))=if fr.contains d=false then some ⟨.buf d e sz 0 n,Xx h fr (nQ cells)++[(d,some ⟨e,ty,cells,false,true,false⟩)]⟩ else none:=by
 simp only[UB]
 cases nQ cells<;>rfl
theorem yV {k:IntKind} : ∀l:List Int,nQ (ab (eI k) l)=true
 | []=>rfl
 | x::l=>by
  have:=yV (k:=k) l
  simp only[bn,xj,List.cons_append,List.nil_append,nQ,fI,this,Bool.and_self]
theorem CS {ty sz i:Nat} {t:Nat->D} : eZ (.fresh ty sz) T none [.tmp i] ⟨t,h,e⟩=lq ty sz h (t i):=ah6
theorem CU {i:Nat} {t:Nat->D} : eZ .tight T none [.tmp i] ⟨t,h,e⟩=ui (t i):=ah6
theorem Xr {nl tg:Bool} {n:Nat} {xs:List D} : ui (.sl nl tg n xs)=some (.clean (.sl nl tg n xs),none):=ah6
theorem SG {ty sz x v o n:Nat} : lq ty sz h (.buf x v sz o n)=uf ty sz o n (live h x v):=by simp[lq]
theorem Xm {ty sz:Nat} {nl tg:Bool} {xs:List D} : lq ty sz h (.sl nl tg 0 xs)=if tg=true then some (.fresh ty sz 0 [],none) else none:=ah6
theorem L2 {ty sz o n:Nat} {r:Row} : uf ty sz o n (some r)=if r.fz=false∧r.ty=ty∧o+n*sz<=r.cells.length then some (.fresh ty sz n ((r.cells.drop o).take (n*sz)),none) else none:=ah6
theorem Es {d:D} : jZ [d]=d:=ah6
theorem Et {d d':D} {ds:List D} : jZ (d::d'::ds)=.tup (d::d'::ds):=ah6
end
theorem SE (k:IntKind):(eI k).size=1:=ah6
theorem CC:lX.size=1:=ah6
theorem GU:abX.size=1:=ah6
theorem L1 {α:Type} (e:gY α):(kV e).size=1:=ah6
section
variable {α:Type} (E:gY α) {l m:List α} {x x' z:α} {i a b n c:Int} {B:Nat}
theorem JM (h:P.idx l i=some x):0<=i∧i<l.length:=by
 unfold P.idx at h
 split at h
 ·assumption
 ·cases h
theorem XI (h:P.idx l i=some x):l[i.toNat]? = some x:=by
 unfold P.idx at h
 split at h
 ·exact h
 ·cases h
theorem Bx (h:P.idx l i=some x):(ab E l).drop (i.toNat*E.size)=E.cells x++ab E (l.drop (i.toNat+1)):=by
 have h':=XI h
 obtain⟨hi,rfl⟩:=afY.1 h'
 rw[ue,ahq hi]
 rfl
theorem re (h:P.idx l i=some x):i.toNat*E.size+E.size<=l.length*E.size:=by
 have h':=JM h
 have:i.toNat+1<=l.length:=by omega
 have:=agi E.size this
 rwa [ags]at this
theorem bs (h:P.idx l i=some x):(0<=i∧i<l.length)∧(ab E l).drop (i.toNat*E.size)=E.cells x++ab E (l.drop (i.toNat+1))∧i.toNat*E.size+E.size<=l.length*E.size:=⟨JM h,Bx E h,re E h⟩
theorem YE:∀(l:List α) (i:Nat) (x:α),l[i]? = some x->∀x',ab E (l.set i x')=(ab E l).take (i*E.size)++E.cells x'++(ab E l).drop (i*E.size+E.size)
 | [],i,x,h,x'=>by simp at h
 | y::l,0,x,h,x'=>by
  rw[List.set_cons_zero,bn,bn,Nat.zero_mul,ahr,ahe,agj,ahg,E.len,agH,agX,ahh (by rw[E.len];exact afv _),ahe]
 | y::l,i+1,x,h,x'=>by
  have ih:=YE l i x (by simpa using h) x'
  rw[List.set_cons_succ,bn,bn,ih,ags]
  have hy:=E.len y
  have e1:(E.cells y++ab E l).take (i*E.size+E.size)=E.cells y++(ab E l).take (i*E.size):=by rw[agU,hy,agW (by omega),ahi]
  have e2:(E.cells y++ab E l).drop (i*E.size+E.size+E.size)=(ab E l).drop (i*E.size+E.size):=by
   rw[ahg,hy,ahh (by omega),ahe,ahi]
  rw[e1,e2]
  simp only[agR]
theorem eV (fo:Nat) (cs:List D) (h:P.idx l i=some x) (hc:E.cells x'=putCells (E.cells x) fo cs) (hfo:fo+cs.length<=E.size):putCells (ab E l) (i.toNat*E.size+fo) cs=ab E (l.set i.toNat x'):=by
 have h':=XI h
 rw[YE E l i.toNat x h' x',hc]
 have he:=Bx E h
 have hf:=re E h
 have hl:=bu E l
 have hx:=E.len x
 have hsplit:ab E l=(ab E l).take (i.toNat*E.size)++(E.cells x++(ab E l).drop (i.toNat*E.size+E.size)):=by
  have h1:=ahk (i.toNat*E.size) (ab E l)
  have h2:(ab E l).drop (i.toNat*E.size+E.size)=ab E (l.drop (i.toNat+1)):=by
   rw[<- ahj,he,ahg,hx,agH,agX,ahh (by omega),ahe]
  rw[h2,<- he,h1]
 generalize (ab E l).drop (i.toNat*E.size+E.size)=r at *
 generalize ht:(ab E l).take (i.toNat*E.size)=p at *
 have hp:p.length=i.toNat*E.size:=by rw[<- ht];simp;omega
 unfold putCells
 rw[hsplit]
 have e1:(p++(E.cells x++r)).take (i.toNat*E.size+fo)=p++(E.cells x).take fo:=by
  rw[agU,hp,agW (by omega),agT,agV (by omega)]
 have e2:(p++(E.cells x++r)).drop (i.toNat*E.size+fo+cs.length)=(E.cells x).drop (fo+cs.length)++r:=by
  rw[afQ,ahg,hp,ahh (by omega),agT,ahe,agS (by omega)]
 rw[e1,e2]
 simp only[agR]
theorem Yx (h:P.idx l i=some x):putCells (ab E l) (i.toNat*E.size) (E.cells x')=ab E (l.set i.toNat x'):=by
 have:=eV E (x':=x') 0 (E.cells x') h (by unfold putCells;simp[E.len]) (by rw[E.len];omega)
 simpa using this
theorem X7 (h:Fz B n c z=some m):m=List.replicate n.toNat z∧0<=n∧n<=c∧c<=maxLen∧c.toNat*B<=140737488355328:=by
 unfold Fz at h
 split at h
 ·cases h;exact⟨rfl,by assumption⟩
 ·cases h
theorem mk_one (h:Fz B n n z=some m):0<=n∧n.toNat=m.length∧m.length<=maxLen∧lA m.length (E.cells z)=ab E m∧m.length*B<=140737488355328:=by
 obtain⟨rfl,h1,_,h3,h4⟩:=X7 h
 refine⟨h1,by simp,by simp;omega,by rw[L5];simp,by simpa using h4⟩
theorem zi (h:Bm l a b=some m):0<=a∧0<=b∧a.toNat<=b.toNat∧b.toNat<=l.length∧b.toNat-a.toNat=m.length∧(List.take (m.length*E.size) (List.drop (a.toNat*E.size) (ab E l))=ab E m):=by
 unfold Bm at h
 split at h
 ·rename_i hc
  cases h
  have hl:((l.drop a.toNat).take (b.toNat-a.toNat)).length=b.toNat-a.toNat:=by simp;omega
  refine⟨hc.1,by omega,by omega,by omega,hl.symm,?_⟩
  rw[hl,ue,eS]
 ·cases h
theorem acv (h:Bm l a b=some m):0<=a∧0<=b∧(a.toNat<=b.toNat∧b.toNat<=l.length)∧b.toNat-a.toNat=m.length∧(List.take (m.length*E.size) (List.drop (a.toNat*E.size) (ab E l))=ab E m):=by
 obtain⟨h1,h2,h3,h4,h5,h6⟩:=zi E h
 exact⟨h1,h2,⟨h3,h4⟩,h5,h6⟩
theorem YJ (h:Bm l a (l.length:Int)=some m):0<=a∧0<=a∧a.toNat<=l.length∧l.length-a.toNat=m.length∧(List.take (m.length*E.size) (List.drop (a.toNat*E.size) (ab E l))=ab E m):=by
 obtain⟨h1,h2,h3,h4,h5,h6⟩:=zi E h
 simp only[Int.toNat_natCast]at h3 h5
 exact⟨h1,h1,h3,h5,h6⟩
theorem Kk (h:Bm l 0 b=some m):0<=b∧0<=b∧m.length<=l.length∧b.toNat=m.length∧(List.take (m.length*E.size) (ab E l)=ab E m):=by
 obtain⟨h1,h2,h3,h4,h5,h6⟩:=zi E h
 have h5':b.toNat=m.length:=by simpa using h5
 refine⟨h2,h2,by omega,h5',by simpa using h6⟩
theorem yP {n:List α} (h:lk B l m=some n):n=l++m∧n.length<=maxLen∧n.length*B<=140737488355328:=by
 unfold lk at h
 split at h
 ·rename_i hc
  cases h
  exact⟨rfl,by rw[agF];exact hc.1,by rw[agF];exact hc.2⟩
 ·cases h
theorem gL {n:List α} (h:lk B l [x]=some n):l.length+1=n.length∧ab E l++E.cells x=ab E n∧n.length<=maxLen∧n.length*B<=140737488355328:=by
 obtain⟨rfl,h1,h2⟩:=yP h
 exact⟨by simp,by rw[iy];simp[ab],h1,h2⟩
theorem Bp {n:List α} (h:lk B [] l=some n):n=l∧l.length<=maxLen∧l.length*B<=140737488355328:=by
 obtain⟨rfl,h1,h2⟩:=yP h
 exact⟨rfl,h1,h2⟩
theorem Z5 {n:List α} (h:lk B l m=some n):l.length+m.length=n.length∧ab E l++ab E m=ab E n∧n.length<=maxLen∧n.length*B<=140737488355328:=by
 obtain⟨rfl,h1,h2⟩:=yP h
 exact⟨by simp,by rw[iy],h1,h2⟩
end
theorem qK {k:IntKind} {x y z:Int} (h:Cm k x y=some z):¬y=0∧k.wrap (x.tdiv y)=z:=by
 unfold Cm at h
 split at h
 ·cases h
 ·cases h;exact⟨by assumption,rfl⟩
theorem xJ {k:IntKind} {x y z:Int} (h:JX k x y=some z):¬y=0∧x.tmod y=z:=by
 unfold JX at h
 split at h
 ·cases h
 ·cases h;exact⟨by assumption,rfl⟩
theorem BB {k:IntKind} {x y z:Int} (h:FI k x y=some z):¬y<0∧k.wrap (x*2 ^ (min y.toNat k.bits))=z:=by
 unfold FI at h
 split at h
 ·cases h
 ·cases h;exact⟨by assumption,rfl⟩
theorem va {k:IntKind} {x y z:Int} (h:Bk k x y=some z):¬y<0∧x.fdiv (2 ^ (min y.toNat k.bits))=z:=by
 unfold Bk at h
 split at h
 ·cases h
 ·cases h;exact⟨by assumption,rfl⟩
theorem Sf (op:BinOp) (k:IntKind) (x y:Int):BX op k x y=jh op k x y:=ah6
theorem pb.emp {P:Program} {f:FuncId} {rk:RK} {out:Option Row} (h1:pb P f none [.sl true true 0 []] rk out) (h2:pb P f none [.sl true false 0 []] rk out):pb P f none [.sl false false 0 []] rk out:=by
 intro w M vs hM ha
 have hd:=ha.2 0 _ rfl
 generalize hu:vs.getD 0 undef=u at hd
 cases hd with
 | sl A c nl tight n xs us k1 k2 k3 k4 k5 k6 k7 k8 =>
  cases A with
  | none =>
   refine h1 w M vs hM ⟨ha.1,fun j d hj =>?_,ha.tab⟩
   cases j with
   | zero=>cases hj;rw[hu];exact .sl none c true true 0 [] us k1 k2 (fun _=>⟨fun _=>⟨rfl,(k4 rfl).2⟩,fun h=>by cases h⟩) k4 (fun _=>(k4 rfl).2) k6 k7 k8
   | succ j=>simp at hj
  | some A =>
   refine h2 w M vs hM ⟨ha.1,fun j d hj =>?_,ha.tab⟩
   cases j with
   | zero=>cases hj;rw[hu];exact .sl (some A) c true false 0 [] us k1 k2 (fun _=>⟨(fun h=>by cases h),fun _ h=>by cases h⟩) k4 (fun h=>by cases h) k6 k7 k8
   | succ j=>simp at hj
theorem bP.adn {P:Program} {T:Nat->Option Ty} {Γ:Env} (hT:gm P T) (hΓ:bA P Γ) (hm:P.follows .mixedOrders=true) {α β:Type} {E:gY α} {F:List α->Option β} {R:β->RK} {mode:Mode} {f:FuncId} {fn:Func} (hf:P.funcs[f]? = some fn) (hok:(match fn.body with|some c=>codeOk c|none=>true)=true)
  (hc:(fn.name == "runtime.NumGoroutine")=false∧fn.body.isNone=false) (hn:1<=fn.ntmps)
  (h0:∀r,F []=some r->aW mode T Γ FU fn none [.sl true true 0 []]=some (R r,none))
  (h1:∀r,F []=some r->aW mode T Γ FU fn none [.sl true false 0 []]=some (R r,none))
  (h2:∀l r,0<l.length->F l=some r->aW mode T Γ FU fn none [.sl false false l.length (ab E l)]=some (R r,none)):bP P f (fc (eQ (po E)) F R) where
 calls lent afq rk out hg:=by
  obtain⟨rfl,rfl,l,r,rfl,hr,rfl⟩:=pP hg
  cases l with
  | nil=>exact pb.emp (iJ hT hΓ hm hf hok hn rfl (h0 r hr)) (iJ hT hΓ hm hf hok hn rfl (h1 r hr))
  | cons x l=>exact iJ hT hΓ hm hf hok hn rfl (h2 (x::l) r (by simp) hr)
 callable:=⟨fn,hf,hc⟩
theorem abQ {w:World} {M:Nat->Prop} {k:IntKind} {n:Int} {u:Value} (h:RP w M (.int k n) u):u=.int k n:=by cases h;rfl
theorem ZP {vs:Array Value} (h:vs.size=1):vs = #[vs.getD 0 undef]:=by
 apply Array.ext
 ·simp[h]
 ·intro i h1 h2
  have:i=0:=by omega
  subst this
  simp[agG h1]
theorem vm1:type_of% (ai @Jc<|ai @BZ<|ai @Is<|ai @OM<|ai @OL<|ai @Iq<|ai @EB<|ai @Ir<|ai @a7<|ai @kS<|ai @rY<|ai @bh<|ai @vS<|ai @AN<|ai @EE<|ai @Ip<|ai @IU<|ai @ER<|ai @OJ<|ai @Im<|ai @Ey<|ai @IV<|ai @ES<|ai @ET<|ai @AX<|ai @OK<|ai @Io<|ai @Ez<|ai @IW<|ai @EU<|ai @EV<|ai @AY<|ai @O1<|ai @O9<|ai @TI<|ai @TN<|ai @Ed<|ai @Ay<|ai @Ee<|ai @Az<|ai @LJ<|ai @LR<|ai @LI<|ai @LQ<|ai @Cn<|ai @Cq<|ai @Gz<|ai @GI<|ai @LM<|ai @LS<|ai @LG<|@LO):=⟨@Jc,@BZ,@Is,@OM,@OL,@Iq,@EB,@Ir,@a7,@kS,@rY,@bh,@vS,@AN,@EE,@Ip,@IU,@ER,@OJ,@Im,@Ey,@IV,@ES,@ET,@AX,@OK,@Io,@Ez,@IW,@EU,@EV,@AY,@O1,@O9,@TI,@TN,@Ed,@Ay,@Ee,@Az,@LJ,@LR,@LI,@LQ,@Cn,@Cq,@Gz,@GI,@LM,@LS,@LG,@LO⟩
theorem vm2:type_of% (ai @GG<|ai @GO<|ai @xe<|ai @xh<|ai @vv<|ai @vB<|ai @GB<|ai @GK<|ai @vw<|ai @vC<|ai @GC<|ai @GL<|ai @GD<|ai @GM<|ai @GA<|ai @GJ<|ai @sN<|ai @sO<|ai @vx<|ai @vD<|ai @Gy<|ai @GH<|ai @SA<|ai @SB<|ai @zK<|ai @zO<|ai @zL<|ai @zP<|ai @LD<|ai @LN<|ai @zJ<|ai @zN<|ai @Od<|ai @Ot<|ai @F8<|ai @zw<|ai @Gv<|ai @Mf<|ai @Cz<|ai @Cy<|ai @Df<|ai @De<|ai @cr<|ai @Ab<|ai @cn<|ai @rj<|ai @Uj<|ai @KQ<|ai @FZ<|ai @FY<|ai @HP<|@Hc):=⟨@GG,@GO,@xe,@xh,@vv,@vB,@GB,@GK,@vw,@vC,@GC,@GL,@GD,@GM,@GA,@GJ,@sN,@sO,@vx,@vD,@Gy,@GH,@SA,@SB,@zK,@zO,@zL,@zP,@LD,@LN,@zJ,@zN,@Od,@Ot,@F8,@zw,@Gv,@Mf,@Cz,@Cy,@Df,@De,@cr,@Ab,@cn,@rj,@Uj,@KQ,@FZ,@FY,@HP,@Hc⟩
theorem vm3:type_of% (ai @Hd<|ai @AR<|ai @EP<|ai @EO<|ai @AW<|ai @tF<|ai @sa<|ai @AT<|ai @sb<|ai @AU<|ai @sc<|ai @AQ<|ai @IT<|ai @vV<|ai @vW<|ai @AS<|ai @p7<|ai @AV<|ai @EM<|ai @vU<|ai @yt<|ai @Tl<|ai @NZ<|ai @Ii<|ai @Ih<|ai @Hv<|ai @R7<|ai @KR<|ai @Sb<|ai @Wx<|ai @Sa<|ai @Wu<|ai @R5<|ai @Sc<|ai @Wt<|ai @Bq<|ai @Sd<|ai @R6<|ai @F2<|ai @BV<|ai @R9<|ai @F3<|ai @Gn<|ai @Ce<|ai @Gq<|ai @K9<|ai @Cb<|ai @zG<|ai @Cd<|ai @Gm<|ai @Ca<|@Lk):=⟨@Hd,@AR,@EP,@EO,@AW,@tF,@sa,@AT,@sb,@AU,@sc,@AQ,@IT,@vV,@vW,@AS,@p7,@AV,@EM,@vU,@yt,@Tl,@NZ,@Ii,@Ih,@Hv,@R7,@KR,@Sb,@Wx,@Sa,@Wu,@R5,@Sc,@Wt,@Bq,@Sd,@R6,@F2,@BV,@R9,@F3,@Gn,@Ce,@Gq,@K9,@Cb,@zG,@Cd,@Gm,@Ca,@Lk⟩
theorem vm4:type_of% (ai @Lr<|ai @Lg<|ai @Gs<|ai @Lj<|ai @Sv<|ai @Lc<|ai @Ss<|ai @Sr<|ai @Le<|ai @Li<|ai @WY<|ai @Sx<|ai @WZ<|ai @aa4<|ai @WW<|ai @WX<|ai @LA<|ai @Ha<|ai @SS<|ai @Sk<|ai @Gh<|ai @Gb<|ai @B6<|ai @Hk<|ai @C1<|ai @Mm<|ai @SU<|ai @Mn<|ai @Gt<|ai @Cf<|ai @KW<|ai @OH<|ai @Il<|ai @OG<|ai @Ij<|ai @OE<|ai @Ik<|ai @CR<|ai @GX<|ai @B7<|ai @yV<|ai @CS<|ai @CU<|ai @Xr<|ai @SG<|ai @Xm<|ai @L2<|ai @Es<|ai @Et<|ai @Sf<|ai @xt<|@bn):=⟨@Lr,@Lg,@Gs,@Lj,@Sv,@Lc,@Ss,@Sr,@Le,@Li,@WY,@Sx,@WZ,@aa4,@WW,@WX,@LA,@Ha,@SS,@Sk,@Gh,@Gb,@B6,@Hk,@C1,@Mm,@SU,@Mn,@Gt,@Cf,@KW,@OH,@Il,@OG,@Ij,@OE,@Ik,@CR,@GX,@B7,@yV,@CS,@CU,@Xr,@SG,@Xm,@L2,@Es,@Et,@Sf,@xt,@bn⟩
theorem vmk:type_of% (And.intro (@Ph)<|@Pj):=⟨@Ph,@Pj⟩
theorem vmc:type_of% (ai @true_and<|ai @and_true<|ai @af5<|ai @afB<|ai @agk<|ai @aho<|ai @agX<|ai @ahp<|ai @ahr<|ai @afV<|ai @afW<|ai @List.contains_nil.{0}<|ai @ahe<|ai @ahn<|ai @ahm<|ai @afU<|ai @agD<|ai @decide_true<|ai @decide_false<|ai @beq_self_eq_true.{0}<|ai @List.isEmpty_nil.{0}<|ai @List.isEmpty_cons.{0}<|ai @Option.map_none.{0,0}<|ai @afD<|ai @agz<|ai @List.all_nil.{0}<|ai @Option.isSome_some.{0}<|ai @Bool.and_true<|ai @agZ<|ai @ahs<|ai @Bool.and_self<|ai @agY<|ai @aht<|ai @and_self<|ai @agj<|ai @af4<|ai @Nat.zero_mul<|ai @Nat.sub_zero<|ai @afw<|ai @afv<|ai @afE<|ai @Nat.le_zero_eq<|ai @ahu<|ai @Bool.or_self<|ai @Bool.or_true<|ai @Bool.true_or<|ai @Bool.or_false<|ai @agy<|@ahv):=⟨@true_and,@and_true,@af5,@afB,@agk,@aho,@agX,@ahp,@ahr,@afV,@afW,@List.contains_nil.{0},@ahe,@ahn,@ahm,@afU,@agD,@decide_true,@decide_false,@beq_self_eq_true.{0},@List.isEmpty_nil.{0},@List.isEmpty_cons.{0},@Option.map_none.{0,0},@afD,@agz,@List.all_nil.{0},@Option.isSome_some.{0},@Bool.and_true,@agZ,@ahs,@Bool.and_self,@agY,@aht,@and_self,@agj,@af4,@Nat.zero_mul,@Nat.sub_zero,@afw,@afv,@afE,@Nat.le_zero_eq,@ahu,@Bool.or_self,@Bool.or_true,@Bool.true_or,@Bool.or_false,@agy,@ahv⟩
theorem vm5:type_of% (ai @ED<|ai @EC<|ai @aa2<|ai @F4<|ai @BW<|ai @R2<|ai @KL<|ai @R3<|ai @Wi<|ai @R0<|ai @R1<|ai @Lm<|ai @SR<|ai @HM<|ai @M0<|ai @Dl<|@M3):=⟨@ED,@EC,@aa2,@F4,@BW,@R2,@KL,@R3,@Wi,@R0,@R1,@Lm,@SR,@HM,@M0,@Dl,@M3⟩
theorem vmu:type_of% (ai @wB.eq_1<|ai @wB.eq_2<|ai @ev.eq_1<|ai @ev.eq_2<|ai @ev.eq_3<|ai @ev.eq_4<|ai @kW.eq_1<|ai @kW.eq_2<|ai @kW.eq_3<|ai @kW.eq_4<|ai @kW.eq_5<|ai @kW.eq_6<|ai @dU.eq_1<|ai @dU.eq_2<|ai @yR.eq_1<|ai @yR.eq_2<|ai @yR.eq_3<|ai @jI.eq_1<|ai @jI.eq_2<|ai @jI.eq_3<|ai @fl.eq_1<|ai @fl.eq_2<|ai @fl.eq_3<|ai @fl.eq_4<|ai @fl.eq_5<|ai @fl.eq_6<|ai @fl.eq_7<|ai @fl.eq_8<|ai @fl.eq_9<|ai @fl.eq_10<|ai @fl.eq_11<|ai @fl.eq_12<|ai @fl.eq_13<|ai @fl.eq_14<|ai @fl.eq_15<|ai @fl.eq_16<|ai @FN.eq_1<|ai @FN.eq_2<|ai @FN.eq_3<|ai @FN.eq_4<|ai @FN.eq_5<|ai @FN.eq_6<|ai @aay.eq_1<|ai @aH.eq_1<|ai @aH.eq_2<|ai @dC.eq_1<|ai @dC.eq_2<|ai @dC.eq_3<|ai @df.eq_1<|ai @df.eq_2<|ai @df.eq_3<|ai @live.eq_1<|ai @iB.eq_1<|ai @iB.eq_2<|ai @Ds.nd.eq_1<|ai @Ds.nd.eq_2<|ai @Ds.nd.eq_3<|ai @b6.eq_1<|ai @b6.eq_2<|ai @b6.eq_3<|ai @b6.eq_4<|ai @b6.eq_5<|ai @b6.eq_6<|ai @fI.eq_1<|ai @fI.eq_2<|ai @fI.eq_3<|ai @fI.eq_4<|ai @fI.eq_5<|ai @fI.eq_6<|ai @nQ.eq_1<|ai @nQ.eq_2<|ai @xE.eq_1<|ai @xE.eq_2<|ai @xE.eq_3<|ai @xE.eq_4<|ai @alive.eq_1<|ai @alive.eq_2<|ai @alive.eq_3<|ai @nm.eq_1<|ai @nm.eq_2<|ai @fO.eq_1<|ai @fO.eq_2<|ai @fO.eq_3<|ai @fO.eq_4<|ai @fO.eq_5<|ai @fO.eq_6<|ai @cB.eq_1<|ai @cB.eq_2<|ai @oX.eq_1<|ai @iw.eq_1<|ai @iw.eq_2<|ai @iw.eq_3<|ai @kE.eq_1<|ai @kE.eq_2<|ai @HZ.eq_1<|ai @bD.eq_1<|ai @bD.eq_2<|ai @bD.eq_3<|ai @bD.eq_4<|ai @fB.eq_1<|ai @fB.eq_2<|ai @fB.eq_3<|ai @cu.eq_1<|ai @cu.eq_2<|ai @cu.eq_3<|ai @cu.eq_4<|ai @cu.eq_5<|ai @cu.eq_6<|ai @ew.eq_1<|ai @gF.eq_1<|ai @gF.eq_2<|ai @fieldAt.eq_1<|ai @dB.eq_1<|ai @oG.eq_1<|ai @gZ.eq_1<|ai @content.eq_1<|ai @content.eq_2<|ai @content.eq_3<|ai @putCells.eq_1<|ai @V6.eq_1<|ai @V6.eq_2<|ai @V6.eq_3<|ai @V6.eq_4<|ai @Px.eq_1<|ai @Px.eq_2<|ai @Px.eq_3<|ai @Px.eq_4<|ai @SM.eq_1<|ai @SM.eq_2<|ai @SM.eq_3<|ai @eA.eq_1<|ai @eA.eq_2<|ai @eA.eq_3<|ai @kindOk.eq_1<|ai @kindOk.eq_2<|ai @kindOk.eq_3<|ai @kindOk.eq_4<|ai @jA.eq_1<|ai @jA.eq_2<|ai @jA.eq_3<|ai @jA.eq_4<|ai @mn.eq_1<|ai @mn.eq_2<|ai @mn.eq_3<|ai @mn.eq_4<|ai @mn.eq_5<|ai @mn.eq_6<|ai @mn.eq_7<|ai @mn.eq_8<|ai @rK.eq_1<|ai @rK.eq_2<|ai @rK.eq_3<|ai @aS.eq_1<|ai @aS.eq_2<|ai @aS.eq_3<|ai @aS.eq_4<|ai @aS.eq_5<|ai @aS.eq_6<|ai @aS.eq_7<|ai @mf.eq_1<|ai @mf.eq_2<|ai @sC.eq_1<|ai @sC.eq_2<|ai @sC.eq_3<|@sC.eq_4):=⟨@wB.eq_1,@wB.eq_2,@ev.eq_1,@ev.eq_2,@ev.eq_3,@ev.eq_4,@kW.eq_1,@kW.eq_2,@kW.eq_3,@kW.eq_4,@kW.eq_5,@kW.eq_6,@dU.eq_1,@dU.eq_2,@yR.eq_1,@yR.eq_2,@yR.eq_3,@jI.eq_1,@jI.eq_2,@jI.eq_3,@fl.eq_1,@fl.eq_2,@fl.eq_3,@fl.eq_4,@fl.eq_5,@fl.eq_6,@fl.eq_7,@fl.eq_8,@fl.eq_9,@fl.eq_10,@fl.eq_11,@fl.eq_12,@fl.eq_13,@fl.eq_14,@fl.eq_15,@fl.eq_16,@FN.eq_1,@FN.eq_2,@FN.eq_3,@FN.eq_4,@FN.eq_5,@FN.eq_6,@aay.eq_1,@aH.eq_1,@aH.eq_2,@dC.eq_1,@dC.eq_2,@dC.eq_3,@df.eq_1,@df.eq_2,@df.eq_3,@live.eq_1,@iB.eq_1,@iB.eq_2,@Ds.nd.eq_1,@Ds.nd.eq_2,@Ds.nd.eq_3,@b6.eq_1,@b6.eq_2,@b6.eq_3,@b6.eq_4,@b6.eq_5,@b6.eq_6,@fI.eq_1,@fI.eq_2,@fI.eq_3,@fI.eq_4,@fI.eq_5,@fI.eq_6,@nQ.eq_1,@nQ.eq_2,@xE.eq_1,@xE.eq_2,@xE.eq_3,@xE.eq_4,@alive.eq_1,@alive.eq_2,@alive.eq_3,@nm.eq_1,@nm.eq_2,@fO.eq_1,@fO.eq_2,@fO.eq_3,@fO.eq_4,@fO.eq_5,@fO.eq_6,@cB.eq_1,@cB.eq_2,@oX.eq_1,@iw.eq_1,@iw.eq_2,@iw.eq_3,@kE.eq_1,@kE.eq_2,@HZ.eq_1,@bD.eq_1,@bD.eq_2,@bD.eq_3,@bD.eq_4,@fB.eq_1,@fB.eq_2,@fB.eq_3,@cu.eq_1,@cu.eq_2,@cu.eq_3,@cu.eq_4,@cu.eq_5,@cu.eq_6,@ew.eq_1,@gF.eq_1,@gF.eq_2,@fieldAt.eq_1,@dB.eq_1,@oG.eq_1,@gZ.eq_1,@content.eq_1,@content.eq_2,@content.eq_3,@putCells.eq_1,@V6.eq_1,@V6.eq_2,@V6.eq_3,@V6.eq_4,@Px.eq_1,@Px.eq_2,@Px.eq_3,@Px.eq_4,@SM.eq_1,@SM.eq_2,@SM.eq_3,@eA.eq_1,@eA.eq_2,@eA.eq_3,@kindOk.eq_1,@kindOk.eq_2,@kindOk.eq_3,@kindOk.eq_4,@jA.eq_1,@jA.eq_2,@jA.eq_3,@jA.eq_4,@mn.eq_1,@mn.eq_2,@mn.eq_3,@mn.eq_4,@mn.eq_5,@mn.eq_6,@mn.eq_7,@mn.eq_8,@rK.eq_1,@rK.eq_2,@rK.eq_3,@aS.eq_1,@aS.eq_2,@aS.eq_3,@aS.eq_4,@aS.eq_5,@aS.eq_6,@aS.eq_7,@mf.eq_1,@mf.eq_2,@sC.eq_1,@sC.eq_2,@sC.eq_3,@sC.eq_4⟩
theorem aee:type_of% (ai @Gf<|ai @Gc<|ai @Gd<|ai @SO<|ai @MX<|ai @MK<|ai @MR<|ai @HI<|ai @ME<|ai @MF<|ai @Dd<|ai @MI<|ai @MH<|ai @Hl<|ai @Nj<|ai @Nv<|ai @Sh<|ai @B0<|ai @B1<|ai @Gg<|ai @SP<|ai @MY<|ai @ML<|ai @HJ<|ai @MS<|ai @Dk<|ai @MV<|ai @MU<|ai @Ho<|ai @Si<|@B2):=⟨@Gf,@Gc,@Gd,@SO,@MX,@MK,@MR,@HI,@ME,@MF,@Dd,@MI,@MH,@Hl,@Nj,@Nv,@Sh,@B0,@B1,@Gg,@SP,@MY,@ML,@HJ,@MS,@Dk,@MV,@MU,@Ho,@Si,@B2⟩
section
variable {T:Nat->Option Ty} {Γ:Env} {N F e:Nat} {Q Q':Kt} {t:Nat->D} {h:Nat->Option Row}
theorem gB (hm:∀x t h e,Q x t h e->Q' x t h e):∀(ws:List W) (x:Ex) (t:Nat->D) (h:Nat->Option Row) (e:Nat),cA T Γ N F ws Q x t h e->cA T Γ N F ws Q' x t h e
 | [],x,t,h,e,hk=>hm _ _ _ _ hk
 | .code c::ws,x,t,h,e,hk=>by
  unfold cA at hk ⊢
  cases x with
  | normal=>exact V2 c t h e _ _ hk (fun x t h e hx=>gB hm ws x t h e hx)
  | exit n=>exact gB hm ws _ t h e hk
  | ret=>exact gB hm ws _ t h e hk
 | .blk id::ws,x,t,h,e,hk=>by
  unfold cA WA at hk ⊢
  cases x with
  | normal=>exact gB hm ws _ t h e hk
  | exit n =>
   simp only at hk ⊢
   split at hk
   ·rename_i hn;rw[if_pos hn];exact gB hm ws _ t h e hk
   ·rename_i hn;rw[if_neg hn];exact gB hm ws _ t h e hk
  | ret=>exact gB hm ws _ t h e hk
theorem oe:∀(ws:List W) (k:Nat),cA T Γ N F ws Q=cA T Γ N F (ws.take k) (cA T Γ N F (ws.drop k) Q)
 | ws,0=>by simp[cA]
 | [],k+1=>by simp[cA]
 | .code c::ws,k+1=>by
  rw[ahp,aho]
  funext x t h e
  unfold cA
  rw[oe ws k]
 | .blk id::ws,k+1=>by
  rw[ahp,aho]
  funext x t h e
  unfold cA
  rw[oe ws k]
variable {σ:Type} {ops l:List Oper} {ws:List W} {dst:Option Nat} {fs:List jg} {d:D} {g:Nat}
theorem rN {J:σ->(Nat->D)->(Nat->Option Row)->Nat->Prop} {P:σ->Prop} {R:Kt} (hrest:∀s t h e,J s t h e->P s->R .normal t h e):∀x t h e,CK J P R x t h e->R x t h e:=by
 intro x t h e hx
 cases x with
 | normal=>obtain⟨s,h1,h2⟩:=hx;exact hrest s t h e h2 h1
 | exit n=>exact hx
 | ret=>exact hx
theorem u5 (hm:∀x t h e,Q x t h e->Q' x t h e) (hk:jl T Γ N F ops l ws Q t h e):jl T Γ N F ops l ws Q' t h e:=u7 (fun t h hh=>gB hm ws _ _ _ _ hh) _ _ _ hk
theorem u6 (hm:∀x t h e,Q x t h e->Q' x t h e) (hk:j0 T Γ N F ops l ws Q t h e fs):j0 T Γ N F ops l ws Q' t h e fs:=u4 (fun t h fs hh=>⟨hh.1,gB hm ws _ _ _ _ hh.2⟩) _ _ _ _ hk
theorem rH (k:Nat):jl T Γ N F ops l ws Q t h e=jl T Γ N F ops l (ws.take k) (cA T Γ N F (ws.drop k) Q) t h e:=by unfold jl;rw[oe ws k]
theorem rI (k:Nat):j0 T Γ N F ops l ws Q t h e fs=j0 T Γ N F ops l (ws.take k) (cA T Γ N F (ws.drop k) Q) t h e fs:=by unfold j0;rw[oe ws k]
theorem GF (k:Nat) {o:Oper} : mZ T Γ N F o ops l ws Q t h e=mZ T Γ N F o ops l (ws.take k) (cA T Γ N F (ws.drop k) Q) t h e:=by
 unfold mZ
 congr 1
 funext t E
 rw[rH k]
theorem GN (k:Nat) {o:Oper} : nc T Γ N F o ops l ws Q t h e fs=nc T Γ N F o ops l (ws.take k) (cA T Γ N F (ws.drop k) Q) t h e fs:=by
 unfold nc
 congr 1
 funext t E
 rw[rI k]
theorem LH {o:Oper} (hm:∀x t h e,Q x t h e->Q' x t h e) (hk:mZ T Γ N F o ops l ws Q t h e):mZ T Γ N F o ops l ws Q' t h e:=yz hk fun _ _ hh=>u5 hm hh
theorem LP {o:Oper} (hm:∀x t h e,Q x t h e->Q' x t h e) (hk:nc T Γ N F o ops l ws Q t h e fs):nc T Γ N F o ops l ws Q' t h e fs:=yz hk fun _ _ hh=>u6 hm hh
variable (k:Nat) (J:σ->(Nat->D)->(Nat->Option Row)->Nat->Prop) (P:σ->Prop)
theorem jB {x y:Code} (hrest:∀s t h e,J s t h e->P s->cA T Γ N F (ws.drop k) Q .normal t h e) (hc:Ks T Γ N F d g x y (ws.take k) (CK J P (cA T Γ N F (ws.drop k) Q)) t h e):Ks T Γ N F d g x y ws Q t h e:=by
 unfold Ks at hc ⊢
 have e1:∀c:Code,cA T Γ N F (.code c::ws) Q=cA T Γ N F (.code c::ws.take k) (cA T Γ N F (ws.drop k) Q):=fun c=>oe (.code c::ws) (k+1)
 rw[e1,e1]
 exact yx hc (fun _ hh=>gB (rN hrest) _ _ _ _ _ hh) (fun _ hh=>gB (rN hrest) _ _ _ _ _ hh)
theorem bq {want:Bool} {o:Oper} (hrest:∀s t h e,J s t h e->P s->cA T Γ N F (ws.drop k) Q .normal t h e) (hc:vt T Γ N F d g want o ops l (ws.take k) (CK J P (cA T Γ N F (ws.drop k) Q)) t h e):vt T Γ N F d g want o ops l ws Q t h e:=by
 unfold vt at hc ⊢
 refine EZ hc (fun t hh =>?_) (fun t hh =>?_) (fun t hh =>?_)
 ·cases want
  ·simp only[af5,if_false]at hh ⊢;rw[rH k];exact u5 (rN hrest) hh
  ·simp only[if_true]at hh ⊢;rw[GF k];exact LH (rN hrest) hh
 ·cases want
  ·simp only[af5,if_false]at hh ⊢;rw[GF k];exact LH (rN hrest) hh
  ·simp only[if_true]at hh ⊢;rw[rH k];exact u5 (rN hrest) hh
 ·rw[rH k];exact u5 (rN hrest) hh
theorem ZJ {want:Bool} {o:Oper} (hrest:∀s t h e,J s t h e->P s->cA T Γ N F (ws.drop k) Q .normal t h e) (hc:vu T Γ N F d g want o ops l (ws.take k) (CK J P (cA T Γ N F (ws.drop k) Q)) t h e fs):vu T Γ N F d g want o ops l ws Q t h e fs:=by
 unfold vu at hc ⊢
 refine EZ hc (fun t hh =>?_) (fun t hh =>?_) (fun t hh =>?_)
 ·cases want
  ·simp only[af5,if_false]at hh ⊢;rw[rI k];exact u6 (rN hrest) hh
  ·simp only[if_true]at hh ⊢;rw[GN k];exact LP (rN hrest) hh
 ·cases want
  ·simp only[af5,if_false]at hh ⊢;rw[GN k];exact LP (rN hrest) hh
  ·simp only[if_true]at hh ⊢;rw[rI k];exact u6 (rN hrest) hh
 ·rw[rI k];exact u6 (rN hrest) hh
end
def mkW {α β γ:Type} (ty:Nat) (E:gY γ) (A:jM α) (F:List γ->α->Option (List γ×β)) (R:β->RK):Option (D×Row)->List D->Option (RK×Option Row):=fun lent ds =>
 match lent with
 | some (.buf 0 0 s o n,⟨0,ty',cells,false,true,false⟩)=>open Classical in
  if h:ty'=ty∧s=E.size∧∃p:List D×List γ×List D×α,cells=p.1++(ab E p.2.1++p.2.2.1)∧o=p.1.length∧n=p.2.1.length∧ds=A.ds p.2.2.2 then
   (F (Classical.choose h.2.2).2.1 (Classical.choose h.2.2).2.2.2).map fun r=>(R r.2,some ⟨0,ty,(Classical.choose h.2.2).1++(ab E r.1++(Classical.choose h.2.2).2.2.1),false,true,false⟩)
  else none
 | _=>none
theorem Um {γ:Type} {E:gY γ} {p p' q q':List D} {l l':List γ} (h:p++(ab E l++q)=p'++(ab E l'++q')) (hp:p.length=p'.length) (hl:l.length=l'.length):p=p'∧l=l'∧q=q':=by
 obtain⟨h1,h2⟩:=List.append_inj h hp
 obtain⟨h3,h4⟩:=List.append_inj h2 (by rw[bu,bu,hl])
 exact⟨h1,sX E _ _ h3,h4⟩
theorem X5 {α β γ:Type} (ty:Nat) (E:gY γ) (A:jM α) (F:List γ->α->Option (List γ×β)) (R:β->RK) (pre post:List D) (l:List γ) (a:α) :
  mkW ty E A F R (some (.buf 0 0 E.size pre.length l.length,⟨0,ty,pre++(ab E l++post),false,true,false⟩)) (A.ds a)=(F l a).map fun r=>(R r.2,some ⟨0,ty,pre++(ab E r.1++post),false,true,false⟩):=by
 have h:ty=ty∧E.size=E.size∧∃p:List D×List γ×List D×α,pre++(ab E l++post)=p.1++(ab E p.2.1++p.2.2.1)∧pre.length=p.1.length∧l.length=p.2.1.length∧A.ds a=A.ds p.2.2.2:=⟨rfl,rfl,(pre,l,post,a),rfl,rfl,rfl,rfl⟩
 simp only[mkW]
 rw[dif_pos h]
 obtain⟨h1,h2,h3,h4⟩:=Classical.choose_spec h.2.2
 obtain⟨e1,e2,e3⟩:=Um h1 h2 h3
 rw[<- A.inj _ _ h4,<- e1,<- e2,<- e3]
theorem NT {α β γ:Type} {ty:Nat} {E:gY γ} {A:jM α} {F:List γ->α->Option (List γ×β)} {R:β->RK} {lent:Option (D×Row)} {ds:List D} {rk:RK} {out:Option Row} (h:mkW ty E A F R lent ds=some (rk,out)) :
  ∃pre l post a l' r,lent=some (.buf 0 0 E.size pre.length l.length,⟨0,ty,pre++(ab E l++post),false,true,false⟩)∧ds=A.ds a∧F l a=some (l',r)∧rk=R r∧out=some ⟨0,ty,pre++(ab E l'++post),false,true,false⟩:=by
 unfold mkW at h
 split at h
 ·split at h
  ·rename_i he
   obtain⟨rfl,rfl,he⟩:=he
   rw[aft]at h
   obtain⟨⟨l',r⟩,h1,h2⟩:=h
   simp only[Prod.mk.injEq]at h2
   obtain⟨rfl,rfl⟩:=h2
   obtain⟨g1,g2,g3,g4⟩:=Classical.choose_spec he
   refine⟨_,_,_,_,l',r,?_,g4,h1,rfl,rfl⟩
   rw[<- g1,<- g2,<- g3]
  ·cases h
 ·cases h
theorem bP.adl {P:Program} {T:Nat->Option Ty} {Γ:Env} (hT:gm P T) (hΓ:bA P Γ) (hm:P.follows .mixedOrders=true) {α β γ:Type} {ty:Nat} {E:gY γ} {A:jM α} {F:List γ->α->Option (List γ×β)} {R:β->RK} {mode:Mode} {f:FuncId} {fn:Func} (hf:P.funcs[f]? = some fn) (hok:(match fn.body with|some c=>codeOk c|none=>true)=true)
  (hc:(fn.name == "runtime.NumGoroutine")=false∧fn.body.isNone=false) (hn:∀a,(A.ds a).length+1<=fn.ntmps)
  (h:∀pre post l a l' r,F l a=some (l',r)->aW mode T Γ FU fn (some (.buf 0 0 E.size pre.length l.length,⟨0,ty,pre++(ab E l++post),false,true,false⟩)) (A.ds a)=some (R r,some ⟨0,ty,pre++(ab E l'++post),false,true,false⟩)):bP P f (mkW ty E A F R) where
 calls lent afq rk out hg:=by
  obtain⟨pre,l,post,a,l',r,rfl,rfl,hr,rfl,rfl⟩:=NT hg
  exact iJ hT hΓ hm hf hok (hn a) rfl (h pre post l a l' r hr)
 callable:=⟨fn,hf,hc⟩
def mkE {α γ:Type} (ty:Nat) (E:gY γ) (A:jM α) (F:List γ->α->Option (List γ)):Option (D×Row)->List D->Option (RK×Option Row):=fun lent ds =>
 match lent with
 | some (.buf 0 0 s o n,⟨0,ty',cells,false,true,false⟩)=>open Classical in
  if h:ty'=ty∧s=E.size∧∃p:List D×List γ×List D×α,cells=p.1++(ab E p.2.1++p.2.2.1)∧o=p.1.length∧n=p.2.1.length∧ds=A.ds p.2.2.2 then
   (F (Classical.choose h.2.2).2.1 (Classical.choose h.2.2).2.2.2).map fun r=>(.fresh ty E.size r.length (ab E r),none)
  else none
 | _=>none
theorem ace {α γ:Type} (ty:Nat) (E:gY γ) (A:jM α) (F:List γ->α->Option (List γ)) (pre post:List D) (l:List γ) (a:α) :
  mkE ty E A F (some (.buf 0 0 E.size pre.length l.length,⟨0,ty,pre++(ab E l++post),false,true,false⟩)) (A.ds a)=(F l a).map fun r=>(.fresh ty E.size r.length (ab E r),none):=by
 have h:ty=ty∧E.size=E.size∧∃p:List D×List γ×List D×α,pre++(ab E l++post)=p.1++(ab E p.2.1++p.2.2.1)∧pre.length=p.1.length∧l.length=p.2.1.length∧A.ds a=A.ds p.2.2.2:=⟨rfl,rfl,(pre,l,post,a),rfl,rfl,rfl,rfl⟩
 simp only[mkE]
 rw[dif_pos h]
 obtain⟨h1,h2,h3,h4⟩:=Classical.choose_spec h.2.2
 obtain⟨e1,e2,e3⟩:=Um h1 h2 h3
 rw[<- A.inj _ _ h4,<- e2]
theorem X2 {α γ:Type} {ty:Nat} {E:gY γ} {A:jM α} {F:List γ->α->Option (List γ)} {lent:Option (D×Row)} {ds:List D} {rk:RK} {out:Option Row} (h:mkE ty E A F lent ds=some (rk,out)) :
  ∃pre l post a r,lent=some (.buf 0 0 E.size pre.length l.length,⟨0,ty,pre++(ab E l++post),false,true,false⟩)∧ds=A.ds a∧F l a=some r∧rk=.fresh ty E.size r.length (ab E r)∧out=none:=by
 unfold mkE at h
 split at h
 ·split at h
  ·rename_i he
   obtain⟨rfl,rfl,he⟩:=he
   rw[aft]at h
   obtain⟨r,h1,h2⟩:=h
   simp only[Prod.mk.injEq]at h2
   obtain⟨rfl,rfl⟩:=h2
   obtain⟨g1,g2,g3,g4⟩:=Classical.choose_spec he
   refine⟨(Classical.choose he).1,(Classical.choose he).2.1,(Classical.choose he).2.2.1,(Classical.choose he).2.2.2,r,?_,g4,h1,rfl,rfl⟩
   rw[<- g1,<- g2,<- g3]
  ·cases h
 ·cases h
theorem bP.adk {P:Program} {T:Nat->Option Ty} {Γ:Env} (hT:gm P T) (hΓ:bA P Γ) (hm:P.follows .mixedOrders=true) {α γ:Type} {ty:Nat} {E:gY γ} {A:jM α} {F:List γ->α->Option (List γ)} {f:FuncId} {fn:Func} (hf:P.funcs[f]? = some fn) (hok:(match fn.body with|some c=>codeOk c|none=>true)=true)
  (hc:(fn.name == "runtime.NumGoroutine")=false∧fn.body.isNone=false) (hn:∀a,(A.ds a).length+1<=fn.ntmps)
  (h:∀pre post l a r,F l a=some r->aW (.fresh ty E.size) T Γ FU fn (some (.buf 0 0 E.size pre.length l.length,⟨0,ty,pre++(ab E l++post),false,true,false⟩)) (A.ds a)=some (.fresh ty E.size r.length (ab E r),none)):bP P f (mkE ty E A F) where
 calls lent afq rk out hg:=by
  obtain⟨pre,l,post,a,r,rfl,rfl,hr,rfl,rfl⟩:=X2 hg
  exact iJ hT hΓ hm hf hok (hn a) rfl (h pre post l a r hr)
 callable:=⟨fn,hf,hc⟩
theorem bP.zero {P:Program} {f:FuncId} {fn:Func} (hf:P.funcs[f]? = some fn) (hc:(fn.name == "runtime.NumGoroutine")=false∧fn.body.isNone=false) {α β:Type} {A:jM α} {F:α->Option β} {R:β->RK} (h0:∀a,F a=none):bP P f (fc A F R) where
 calls lent afq rk out hg:=by
  obtain⟨rfl,rfl,a,r,rfl,hr,rfl⟩:=pP hg
  rw[h0]at hr
  cases hr
 callable:=⟨fn,hf,hc⟩
section
variable {h:Nat->Option Row} {Γ:Env} {g e x v d:Nat} {dst:Option Nat} {fr:List Nat} {afq rest:List D} {d0:D} {T:Nat->Option Ty} {rs:List ResultVar}
def Ge (h:Nat->Option Row) (e:Nat) (dst:Option Nat) (x v:Nat) (fr:List Nat):Option (RK×Option Row)->Option bt
 | some (.clean c,some r1)=>some ⟨c,gG h fr++[(x,some { r1 with v:=v })]⟩
 | some (.same s o n,some r1)=>some ⟨.buf x v s o n,gG h fr++[(x,some { r1 with v:=v })]⟩
 | some (.fresh ty s n cells,none) =>
  match dst with
  | some d=>if fr.contains d=false then some ⟨.buf d e s 0 n,gG h fr++[(x,none),(d,some ⟨e,ty,cells,false,true,false⟩)]⟩ else none
  | none=>none
 | _=>none
def WH (Γ:Env) (h:Nat->Option Row) (e:Nat) (dst:Option Nat) (g x v:Nat) (d0:D) (r:Row):Option (List D×List Nat)->Option bt
 | some (afq,fr)=>if fr.contains x=false then Ge h e dst x v fr (Γ.sem g (some (d0,r)) afq) else none
 | none=>none
def KY (Γ:Env) (h:Nat->Option Row) (e:Nat) (dst:Option Nat) (g x v:Nat) (d0:D) (rest:List D):Option Row->Option bt
 | some r=>if r.fz=false then WH Γ h e dst g x v d0 { r with v:=0 } (bm h rest) else none
 | none=>none
theorem KZ {s o n:Nat} : A0 true Γ h e dst g (.buf x v s o n::rest)=KY Γ h e dst g x v (.buf 0 0 s o n) rest (live h x v):=by
 simp only[A0,if_true,nF,xF]
 cases live h x v with
 | none=>rfl
 | some r =>
  simp only[KY]
  cases bm h rest with
  | none=>rfl
  | some p=>rfl
def lvR (v:Nat):Option Row->Option Row
 | some r=>if r.v=v∧r.mp=true∧pO r=true then some r else none
 | none=>none
theorem Nw {v ty:Nat} {ks:List bV} {vs:List D} {fz lst:Bool} (hty:ty<900000):lvR v (some ⟨v,ty,[.mpc ks vs],fz,lst,true⟩)=some ⟨v,ty,[.mpc ks vs],fz,lst,true⟩:=by simp[lvR,pO,hty]
theorem Sj:A0 true Γ h e dst g (.mp x v::rest)=KY Γ h e dst g x v (.mp 0 0) rest (lvR v (h x)):=by
 simp only[A0,if_true,nF,xF]
 have:wz h x v=lvR v (h x):=by unfold wz lvR;cases h x<;>rfl
 rw[this]
 cases lvR v (h x) with
 | none=>rfl
 | some r =>
  simp only[KY]
  cases bm h rest with
  | none=>rfl
  | some p=>rfl
theorem wY {c:D} {v' ty:Nat} {cells:List D} {fz lst:Bool} : Ge h e dst x v fr (some (.clean c,some ⟨v',ty,cells,fz,lst,true⟩))=some ⟨c,gG h fr++[(x,some ⟨v,ty,cells,fz,lst,true⟩)]⟩:=ah6
theorem B3 {r:Row} : KY Γ h e dst g x v d0 rest (some r)=if r.fz=false then WH Γ h e dst g x v d0 { r with v:=0 } (bm h rest) else none:=ah6
theorem B4 {r:Row} : WH Γ h e dst g x v d0 r (some (afq,fr))=if fr.contains x=false then Ge h e dst x v fr (Γ.sem g (some (d0,r)) afq) else none:=ah6
theorem zx {c:D} {v' ty:Nat} {cells:List D} {fz lst:Bool} : Ge h e dst x v fr (some (.clean c,some ⟨v',ty,cells,fz,lst,false⟩))=some ⟨c,gG h fr++[(x,some ⟨v,ty,cells,fz,lst,false⟩)]⟩:=ah6
theorem B5 {s o n v' ty:Nat} {cells:List D} {fz lst:Bool} : Ge h e dst x v fr (some (.same s o n,some ⟨v',ty,cells,fz,lst,false⟩))=some ⟨.buf x v s o n,gG h fr++[(x,some ⟨v,ty,cells,fz,lst,false⟩)]⟩:=ah6
theorem zy {s n ty:Nat} {cells:List D} : Ge h e (some d) x v fr (some (.fresh ty s n cells,none))=if fr.contains d=false then some ⟨.buf d e s 0 n,gG h fr++[(x,none),(d,some ⟨e,ty,cells,false,true,false⟩)]⟩ else none:=ah6
theorem Aa {ty sz i:Nat} {t:Nat->D} {l:D×Row} : eZ (.fresh ty sz) T (some l) [.tmp i] ⟨t,h,e⟩=lq ty sz h (t i):=ah6
def adb (y v s o:Nat):Option Row->Option Ty->Option (Nat×Nat)->Option bt
 | some _,some φ,some (l,k)=>if φ.size=s∧0<s then some ⟨.buf y v s (o+l*s) (k-l),[]⟩ else none
 | _,_,_=>none
theorem G3 {y v s o l k:Nat} {r:Row} {φ:Ty} : adb y v s o (some r) (some φ) (some (l,k))=if φ.size=s∧0<s then some ⟨.buf y v s (o+l*s) (k-l),[]⟩ else none:=ah6
theorem SN {el b c y v s o n:Nat} {z:List Value} {q:Bool} {lo hi:Option D} : cu T ⟨.slice el,b,c,z,q⟩ h (.buf y v s o n) lo hi none=adb y v s o (live h y v) (T el) (sC n lo hi):=by
 simp only[cu]
 cases live h y v with
 | none=>rfl
 | some r =>
  simp only
  cases T el with
  | none=>rfl
  | some φ =>
   cases sC n lo hi with
   | none=>rfl
   | some p=>rfl
def ab1 (ty:Nat):Option (List D×List Nat)->Option Row->Option (RK×Option Row)
 | some (ds,fr),some r=>if r.v=0∧r.fz=false∧r.ty=ty∧r.mp=false∧fr.contains 0=false then some (.clean (jZ ds),some r) else none
 | _,_=>none
theorem GZ {ty:Nat} {ds:List D} {r:Row} : ab1 ty (some (ds,fr)) (some r)=if r.v=0∧r.fz=false∧r.ty=ty∧r.mp=false∧fr.contains 0=false then some (.clean (jZ ds),some r) else none:=ah6
theorem G0 {t:Nat->D} {ty v:Nat} {cells:List D} {fz lst:Bool} : eZ .clean T (some (d0,⟨v,ty,cells,fz,lst,false⟩)) rs ⟨t,h,e⟩=ab1 ty (rF T ⟨t,h,e⟩ rs) (h 0):=by
 simp only[eZ,nP,iP,Yh,ab1]
 cases rF T ⟨t,h,e⟩ rs with
 | none=>rfl
 | some p =>
  obtain⟨ds,fr⟩:=p
  cases h 0 with
  | none=>rfl
  | some r =>
   simp only
   by_cases h1:r.v=0∧r.fz=false∧r.ty=ty∧r.mp=false
   ·rw[if_pos ⟨h1.1,h1.2.1,h1.2.2.1,h1.2.2.2,rf h1.2.2.2⟩]
    simp only[af7]
    by_cases h2:fr.contains 0=false
    ·rw[if_pos h2,if_pos ⟨h1.1,h1.2.1,h1.2.2.1,h1.2.2.2,h2⟩]
    ·rw[if_neg h2,if_neg (fun hh=>h2 hh.2.2.2.2)]
   ·rw[if_neg (fun hh=>h1 ⟨hh.1,hh.2.1,hh.2.2.1,hh.2.2.2.1⟩),if_neg (fun hh=>h1 ⟨hh.1,hh.2.1,hh.2.2.1,hh.2.2.2.1⟩)]
def SK (ty:Nat):Option (List D×List Nat)->Option Row->Option (RK×Option Row)
 | some (ds,fr),some r=>if r.v=0∧r.fz=false∧r.ty=ty∧(r.mp=true∧pO r=true)∧fr.contains 0=false then some (.clean (jZ ds),some r) else none
 | _,_=>none
theorem CQ {ty:Nat} {ds:List D} {ks:List bV} {vs:List D} {lst:Bool} (hty:ty<900000):SK ty (some (ds,fr)) (some ⟨0,ty,[.mpc ks vs],false,lst,true⟩)=if fr.contains 0=false then some (.clean (jZ ds),some ⟨0,ty,[.mpc ks vs],false,lst,true⟩) else none:=by
 simp[SK,pO,hty]
theorem CT {t:Nat->D} {ty v:Nat} {cells:List D} {fz lst:Bool} : eZ .clean T (some (d0,⟨v,ty,cells,fz,lst,true⟩)) rs ⟨t,h,e⟩=SK ty (rF T ⟨t,h,e⟩ rs) (h 0):=by
 simp only[eZ,nP,iP,Yh,SK]
 cases rF T ⟨t,h,e⟩ rs with
 | none=>rfl
 | some p =>
  obtain⟨ds,fr⟩:=p
  cases h 0 with
  | none=>rfl
  | some r =>
   simp only
   by_cases h1:r.v=0∧r.fz=false∧r.ty=ty∧(r.mp=true∧pO r=true)
   ·rw[if_pos h1]
    simp only[af7]
    by_cases h2:fr.contains 0=false
    ·rw[if_pos h2,if_pos ⟨h1.1,h1.2.1,h1.2.2.1,h1.2.2.2,h2⟩]
    ·rw[if_neg h2,if_neg (fun hh=>h2 hh.2.2.2.2)]
   ·rw[if_neg h1,if_neg (fun hh=>h1 ⟨hh.1,hh.2.1,hh.2.2.1,hh.2.2.2.1⟩)]
def aaj (ty:Nat):D->Option Row->Option (RK×Option Row)
 | .buf 0 0 s o n,some r=>if r.v=0∧r.fz=false∧r.ty=ty∧r.mp=false then some (.same s o n,some r) else none
 | _,_=>none
theorem Ma {ty s o n:Nat} {r:Row} : aaj ty (.buf 0 0 s o n) (some r)=if r.v=0∧r.fz=false∧r.ty=ty∧r.mp=false then some (.same s o n,some r) else none:=ah6
theorem G1 {t:Nat->D} {ty v i:Nat} {cells:List D} {fz lst:Bool} : eZ .same T (some (d0,⟨v,ty,cells,fz,lst,false⟩)) [.tmp i] ⟨t,h,e⟩=aaj ty (t i) (h 0):=by
 simp only[eZ,Bv,iP]
 generalize t i=q
 cases q with
 | buf a b s o n =>
  cases h 0 with
  | none=>rcases a with _|a<;>rcases b with _|b<;>rfl
  | some r =>
   simp only
   have h0:(r.v=0∧r.fz=false∧r.ty=ty∧r.mp=false∧pO r=true)↔(r.v=0∧r.fz=false∧r.ty=ty∧r.mp=false):=⟨fun hh=>⟨hh.1,hh.2.1,hh.2.2.1,hh.2.2.2.1⟩,fun hh=>⟨hh.1,hh.2.1,hh.2.2.1,hh.2.2.2,rf hh.2.2.2⟩⟩
   by_cases h1:r.v=0∧r.fz=false∧r.ty=ty∧r.mp=false
   ·rcases a with _|a<;>rcases b with _|b<;>simp[aaj,h1,rf h1.2.2.2]
   ·rcases a with _|a<;>rcases b with _|b<;>simp only[aaj,h0,h1,if_false]<;>rfl
 | _=>rfl
end
section
variable {α:Type} (E:gY α) {l m u x:List α} {y y':α} {i a b:Int} {pre post:List D}
theorem aaQ (h:Bm l a b=some x):ab E (l.take a.toNat)++(ab E x++ab E (l.drop b.toNat))=ab E l:=by
 unfold Bm at h
 split at h
 ·rename_i hc
  cases h
  rw[<- iy,<- iy]
  congr 1
  have e:l.drop b.toNat=(l.drop a.toNat).drop (b.toNat-a.toNat):=by rw[ahj];congr 1;omega
  rw[e,ahk,ahk]
 ·cases h
theorem aaR (h:Bm l a b=some x):(ab E (l.take a.toNat)).length=a.toNat*E.size:=by
 unfold Bm at h
 split at h
 ·rw[bu,afO,agI (by omega)]
 ·cases h
theorem abG (h:Bm l a b=some x):x.length=b.toNat-a.toNat:=by
 unfold Bm at h
 split at h
 ·cases h
  simp
  omega
 ·cases h
theorem aaP:ab E (l.take i.toNat)++(ab E u++ab E (l.drop b.toNat))=ab E (l.take i.toNat++(u++l.drop b.toNat)):=by rw[iy,iy]
theorem XG (h:P.idx l i=some y):(pre++(ab E l++post)).drop (pre.length+i.toNat*E.size)=E.cells y++(ab E (l.drop (i.toNat+1))++post):=by
 rw[<- ahj,List.drop_left,agS (by rw[bu];have:=re E h;omega),Bx E h,agR]
theorem XH (h:P.idx l i=some y):pre.length+i.toNat*E.size+E.size<=(pre++(ab E l++post)).length:=by
 have:=re E h
 rw[agF,agF,bu]
 omega
theorem MP (h:P.idx l i=some y):(0<=i∧i<l.length)∧(pre++(ab E l++post)).drop (pre.length+i.toNat*E.size)=E.cells y++(ab E (l.drop (i.toNat+1))++post)∧pre.length+i.toNat*E.size+E.size<=(pre++(ab E l++post)).length:=⟨JM h,XG E h,XH E h⟩
theorem OA (h:P.idx l i=some y):putCells (pre++(ab E l++post)) (pre.length+i.toNat*E.size) (E.cells y')=pre++(ab E (l.set i.toNat y')++post):=by
 have h1:=Yx E (x':=y') h
 have hf:=re E h
 have hl:=bu E l
 unfold putCells at h1 ⊢
 rw[<- h1,E.len]
 have e1:(pre++(ab E l++post)).take (pre.length+i.toNat*E.size)=pre++(ab E l).take (i.toNat*E.size):=by
  rw[agU,agW (by omega),agT,agV (by omega)]
 have e2:(pre++(ab E l++post)).drop (pre.length+i.toNat*E.size+E.size)=(ab E l).drop (i.toNat*E.size+E.size)++post:=by
  rw[afQ,ahg,ahh (by omega),agT,ahe,agS (by omega)]
 rw[e1,e2]
 simp only[agR]
theorem ZR (h:Bm l a b=some x) (hu:u.length=x.length):(l.take a.toNat++(u++l.drop b.toNat)).length=l.length:=by
 have hn:=abG h
 unfold Bm at h
 split at h
 ·simp only[agF,afO,afP]
  omega
 ·cases h
theorem aaH (h:Bm l 0 b=some x):pre.length+x.length*E.size<=(pre++(ab E l++post)).length∧((pre++(ab E l++post)).drop pre.length).take (x.length*E.size)=ab E x:=by
 obtain⟨h1,h2,h3,h4,h5⟩:=Kk E h
 have:=agi E.size h3
 refine⟨by rw[agF,agF,bu];omega,?_⟩
 rw[List.drop_left,agV (by rw[bu];exact this),h5]
end
section
variable {h:Nat->Option Row} {Γ:Env} {e:Nat} {dst:Option Nat}
def caP:Option (D×List Nat)->Option (List D×List Nat)->Option (List D×List Nat)
 | some (d,fr),some (ds,fr')=>some (d::ds,fr++fr')
 | _,_=>none
theorem KX {d:D} {ds:List D} {fr fr':List Nat} : caP (some (d,fr)) (some (ds,fr'))=some (d::ds,fr++fr'):=ah6
theorem Lb:cH h []=some ([],[]):=ah6
theorem Gr {d:D} {ds:List D} : cH h (d::ds)=caP (aN h d) (cH h ds):=by
 simp only[cH]
 cases aN h d with
 | none=>rfl
 | some x=>cases cH h ds<;>rfl
theorem Sm {k:IntKind} {n:Int} : aN h (.int k n)=some (.int k n,[]):=ah6
theorem La {b:Bool} : aN h (.bool b)=some (.bool b,[]):=ah6
theorem Sq {b:ByteArray} : aN h (.str b)=some (.str b,[]):=ah6
theorem WS {a b:Bool} {n:Nat} {xs:List D} : aN h (.sl a b n xs)=some (.sl false false n xs,[]):=ah6
theorem Sl {xs:List D} : aN h (.agg xs)=some (.agg (xs.map canon),[]):=ah6
theorem WM {f:Nat} : aN h (.fn f)=some (.fn f,[]):=ah6
def clC (f k:Nat):Option (List D×List Nat)->Option (D×List Nat)
 | some (ys,fr)=>some (.clo f k ys,fr)
 | none=>none
theorem Ll {f k:Nat} {ys:List D} {fr:List Nat} : clC f k (some (ys,fr))=some (.clo f k ys,fr):=ah6
theorem Lf {f k:Nat} {xs:List D} : bE h (.clo f k xs)=clC f k (cH h xs):=by
 simp only[bE]
 cases cH h xs<;>rfl
theorem K7 {g k:Nat} {caps args:List D} : gn Γ h e dst (.clo g k caps) args=if caps.all im then A0 false Γ h e dst g (caps.take k++(args++caps.drop k)) else none:=by
 simp only[gn,A0,af5,if_false]
theorem Ts {k:IntKind} {n:Int} : im (.int k n)=true:=ah6
theorem Oq {b:Bool} : im (.bool b)=true:=ah6
theorem Tv {b:ByteArray} : im (.str b)=true:=ah6
theorem Yo {a b:Bool} {n:Nat} {xs:List D} : im (.sl a b n xs)=true:=ah6
theorem Tr {xs:List D} : im (.agg xs)=true:=ah6
theorem Yk {f:Nat} : im (.fn f)=true:=ah6
end
theorem Er:jZ []=.tup []:=ah6
def aFn (f:Nat):Arg Unit:=⟨fun _ =>.fn f,fun _ _ _=>rfl⟩
def Uw {α:Type} (f k:Nat) (a:jM α):Arg α:=⟨fun x =>.clo f k (a.ds x),fun x y h=>a.inj _ _ (by simpa using h)⟩
theorem vm7:type_of% (ai @KX<|ai @Lb<|ai @Gr<|ai @Sm<|ai @La<|ai @Sq<|ai @WS<|ai @Sl<|ai @WM<|ai @Ll<|ai @Lf<|ai @K7<|ai @Ts<|ai @Oq<|ai @Tv<|ai @Yo<|ai @Tr<|ai @Yk<|ai @Er<|ai @xd<|ai @xg<|@Bq):=⟨@KX,@Lb,@Gr,@Sm,@La,@Sq,@WS,@Sl,@WM,@Ll,@Lf,@K7,@Ts,@Oq,@Tv,@Yo,@Tr,@Yk,@Er,@xd,@xg,@Bq⟩
theorem vm6:type_of% (ai @OI<|ai @agx<|ai @SN<|ai @G3<|ai @zy<|ai @Aa<|ai @KZ<|ai @Sj<|ai @Nw<|ai @wY<|ai @CQ<|ai @CT<|ai @B3<|ai @B4<|ai @zx<|ai @B5<|ai @GZ<|ai @G0<|ai @Ma<|@G1):=⟨@OI,@agx,@SN,@G3,@zy,@Aa,@KZ,@Sj,@Nw,@wY,@CQ,@CT,@B3,@B4,@zx,@B5,@GZ,@G0,@Ma,@G1⟩
section
variable {T:Nat->Option Ty} {h:Nat->Option Row} {τ:Ty} {q:Nat->Bool}
theorem XQ {x v o:Nat} : lY τ h (.ptr x v o)=my τ h x v o (live h x v):=ah6
theorem abb {xs:List D} : lY τ h (.ip xs)=df τ h (.ip xs):=ah6
theorem aa9 {x v o v' ty:Nat} {c:List D} {fz:Bool} : my τ h x v o (some ⟨v',ty,c,fz,true,false⟩)=df τ h (.ptr x v o):=by
 simp only[my,agY,Bool.and_false,af5,if_false]
theorem aba {x v o v' ty:Nat} {c:List D} {lst:Bool} : my τ h x v o (some ⟨v',ty,c,false,lst,false⟩)=df τ h (.ptr x v o):=by
 simp only[my,ahs,af5,if_false]
def ldA:Option D->Option bt->Option bt
 | some d,_=>some ⟨d,[]⟩
 | none,E=>E
theorem M8 {d:D} {E:Option bt} : ldA (some d) E=some ⟨d,[]⟩:=ah6
theorem M7 {E:Option bt} : ldA none E=E:=ah6
theorem aa8 {x v o v' ty:Nat} {c:List D} : my τ h x v o (some ⟨v',ty,c,true,false,false⟩)=if o+τ.size<=c.length then ldA (PF τ.ds.nd ((c.drop o).take τ.size)) (df τ h (.ptr x v o)) else none:=by
 simp only[my,aht,Bool.and_self,if_true]
 cases PF τ.ds.nd ((c.drop o).take τ.size)<;>rfl
theorem Wp {x v s o n:Nat} : PF true [.ali x v s o n]=some (.box1 x v s o n):=ah6
theorem Wo {x v s o n:Nat} : PF false [.ali x v s o n]=some (.buf x v s o n):=ah6
theorem TT {p:D} {k:IntKind} {n:Int} : cJ τ h p (.int k n)=cB τ h p (.int k n):=ah6
theorem Pg {p:D} {b:Bool} : cJ τ h p (.bool b)=cB τ h p (.bool b):=ah6
theorem TV {p:D} {b:ByteArray} : cJ τ h p (.str b)=cB τ h p (.str b):=ah6
theorem YV {p:D} {a b:Bool} {n:Nat} {xs:List D} : cJ τ h p (.sl a b n xs)=cB τ h p (.sl a b n xs):=ah6
theorem TU {p:D} {x v o:Nat} : cJ τ h p (.ptr x v o)=cB τ h p (.ptr x v o):=ah6
theorem YS {p:D} {xs:List D} : cJ τ h p (.ip xs)=cB τ h p (.ip xs):=ah6
theorem TR {p:D} {x v s o n:Nat} : cJ τ h p (.buf x v s o n)=cB τ h p (.buf x v s o n):=ah6
theorem TP {p:D} {xs:List D} : cJ τ h p (.agg xs)=cB τ h p (.agg xs):=ah6
theorem YR {p:D} {f:Nat} : cJ τ h p (.fn f)=cB τ h p (.fn f):=ah6
theorem TS {p:D} {f k:Nat} {xs:List D} : cJ τ h p (.clo f k xs)=cB τ h p (.clo f k xs):=ah6
theorem TW {p:D}  : cJ τ h p (.und)=cB τ h p (.und):=ah6
def adE (τ:Ty) (x o y vy s oy n:Nat):Option Row->Option bt
 | some r=>if τ.size=1∧o=0∧r.cells.length=1∧r.fz=false∧r.lst=false then some ⟨.und,[(x,some ⟨r.v,r.ty,[.ali y vy s oy n],true,false,false⟩)]⟩ else none
 | none=>none
theorem IS {x o y vy s oy n:Nat} {r:Row} : adE τ x o y vy s oy n (some r)=if τ.size=1∧o=0∧r.cells.length=1∧r.fz=false∧r.lst=false then some ⟨.und,[(x,some ⟨r.v,r.ty,[.ali y vy s oy n],true,false,false⟩)]⟩ else none:=ah6
theorem TQ {x v o y vy s oy n:Nat} : cJ τ h (.ptr x v o) (.box1 y vy s oy n)=adE τ x o y vy s oy n (live h x v):=by
 simp only[cJ]
 cases live h x v<;>rfl
def KT (b:Bool) (T:Nat->Option Ty) (τ:Ty) (h:Nat->Option Row) (ps:List (Nat×D)):Option bt :=
 if b then ew T τ h ps else
  match τ.ds,ps with
  | .struct fs,[(0,.buf x v s o n)]=>if (alive h (.buf x v s o n))∧(fs.all fun f=>(T f.1).isSome)∧fieldAt T fs 0=some (0,1)∧τ.zero.length=1 then some ⟨.box1 x v s o n,[]⟩ else none
  | .struct fs,[(0,.box1 x v s o n)]=>if (alive h (.buf x v s o n))∧(fs.all fun f=>(T f.1).isSome)∧fieldAt T fs 0=some (0,1)∧τ.zero.length=1 then some ⟨.box1 x v s o n,[]⟩ else none
  | _,_=>cE (ew T τ h ps)
theorem Sg {d:Nat} {ps:List (Nat×D)} : nH q T τ h (some d) ps=KT (q d) T τ h ps:=ah6
theorem F6:KT false T τ h []=cE (ew T τ h []):=by
 unfold KT
 rw[if_neg (by simp)]
 cases τ.ds<;>rfl
theorem WD {cs:List D} {hw:List (Nat×Option Row)} : cE (some ⟨.agg cs,hw⟩)=some ⟨.agg (cs.map canon),hw⟩:=ah6
theorem F7 {ps:List (Nat×D)} : KT true T τ h ps=ew T τ h ps:=ah6
def Wy (T:Nat->Option Ty) (h:Nat->Option Row) (nz x v s o n:Nat):Ds->Option bt
 | .struct fs=>if (alive h (.buf x v s o n))∧(fs.all fun f=>(T f.1).isSome)∧fieldAt T fs 0=some (0,1)∧nz=1 then some ⟨.box1 x v s o n,[]⟩ else none
 | _=>none
theorem Wz {nz x v s o n:Nat} {fs:List (Nat×Nat)} : Wy T h nz x v s o n (.struct fs)=if (alive h (.buf x v s o n))∧(fs.all fun f=>(T f.1).isSome)∧fieldAt T fs 0=some (0,1)∧nz=1 then some ⟨.box1 x v s o n,[]⟩ else none:=ah6
theorem KU {x v s o n:Nat} : KT false T τ h [(0,.box1 x v s o n)]=Wy T h τ.zero.length x v s o n τ.ds:=by
 unfold KT Wy ew
 rw[if_neg (by simp)]
 cases τ.ds<;>rfl
theorem BY {x v s o n:Nat} : KT false T τ h [(0,.buf x v s o n)]=Wy T h τ.zero.length x v s o n τ.ds:=by
 unfold KT Wy ew
 rw[if_neg (by simp)]
 cases τ.ds<;>rfl
def clX:Option (D×List Nat)->Option (D×List Nat)
 | some (d,fr)=>some (.agg [d],fr)
 | none=>none
theorem Lt {d:D} {fr:List Nat} : clX (some (d,fr))=some (.agg [d],fr):=ah6
theorem Ld {x v s o n:Nat} : bE h (.box1 x v s o n)=clX (clB x s o n (live h x v)):=by
 simp only[bE,aN,cY]
 cases live h x v with
 | none=>rfl
 | some r=>by_cases hc:o+n*s<=r.cells.length<;>simp[clB,clX,hc,canon]
theorem Ye {x v s o n:Nat} : nm (.box1 x v s o n)=[x]:=ah6
theorem FX {x v s o n:Nat} : alive h (.buf x v s o n)=(ma h x v).isSome:=ah6
theorem Hb {fs:List (Nat×Nat)} {ft off:Nat} : fieldAt T ((ft,off)::fs) 0=(T ft).map fun φ=>(off,φ.size):=by
 simp only[fieldAt,List.getElem?_cons_zero]
 cases T ft<;>rfl
end
theorem vm8:type_of% (ai @XQ<|ai @abb<|ai @aa9<|ai @aba<|ai @M8<|ai @M7<|ai @aa8<|ai @Wp<|ai @Wo<|ai @TT<|ai @Pg<|ai @TV<|ai @YV<|ai @TU<|ai @YS<|ai @TR<|ai @TP<|ai @YR<|ai @TS<|ai @TW<|ai @TQ<|ai @IS<|ai @Sg<|ai @F7<|ai @Wz<|ai @BY<|ai @F6<|ai @KU<|ai @WD<|ai @Lt<|ai @Ld<|ai @Ye<|ai @FX<|@Hb):=⟨@XQ,@abb,@aa9,@aba,@M8,@M7,@aa8,@Wp,@Wo,@TT,@Pg,@TV,@YV,@TU,@YS,@TR,@TP,@YR,@TS,@TW,@TQ,@IS,@Sg,@F7,@Wz,@BY,@F6,@KU,@WD,@Lt,@Ld,@Ye,@FX,@Hb⟩
theorem aeg:type_of% (ai @V8<|ai @aaT<|ai @Iv<|ai @TF<|ai @YI<|ai @YH<|ai @NY<|ai @NX<|ai @abz<|ai @Hj<|ai @Hi<|ai @Mk<|ai @HO<|ai @DJ<|ai @N0<|ai @Tm<|ai @Tw<|ai @TE<|ai @Ni<|ai @XV<|ai @S9<|ai @Ht<|ai @S7<|ai @M9<|ai @Hu<|ai @Na<|ai @S8<|ai @TL<|ai @IG<|ai @IH<|ai @Ix<|ai @IJ<|ai @IF<|ai @O6<|ai @II<|ai @O7<|ai @TK<|ai @O5<|ai @IN<|ai @Ov<|ai @Ou<|ai @S6<|ai @Hr<|ai @XN<|ai @XO<|ai @Hs<|ai @TG<|ai @IQ<|ai @YP<|ai @YQ<|ai @Pd<|ai @Pc<|ai @I1<|ai @I2<|ai @E2<|ai @Ur<|ai @Up<|ai @Pr<|ai @Uh<|ai @ZL<|ai @Tq<|ai @Yi<|ai @Yj<|ai @ZM<|ai @Uq<|ai @Us<|ai @I0<|ai @Pv<|ai @Pb<|@Br):=⟨@V8,@aaT,@Iv,@TF,@YI,@YH,@NY,@NX,@abz,@Hj,@Hi,@Mk,@HO,@DJ,@N0,@Tm,@Tw,@TE,@Ni,@XV,@S9,@Ht,@S7,@M9,@Hu,@Na,@S8,@TL,@IG,@IH,@Ix,@IJ,@IF,@O6,@II,@O7,@TK,@O5,@IN,@Ov,@Ou,@S6,@Hr,@XN,@XO,@Hs,@TG,@IQ,@YP,@YQ,@Pd,@Pc,@I1,@I2,@E2,@Ur,@Up,@Pr,@Uh,@ZL,@Tq,@Yi,@Yj,@ZM,@Uq,@Us,@I0,@Pv,@Pb,@Br⟩
theorem aeh:type_of% (ai @SQ<|ai @MZ<|ai @MM<|ai @MT<|ai @MG<|ai @HL<|ai @Oa<|ai @DN<|ai @Oc<|ai @Ob<|ai @HS<|ai @N9<|ai @N8<|ai @IB<|ai @IL<|ai @IA<|ai @IK<|ai @TH<|ai @TM<|ai @IC<|ai @IM<|ai @O0<|ai @O8<|ai @HD<|ai @HE<|ai @KM<|ai @KN<|ai @O3<|ai @ID<|ai @O4<|ai @IE<|ai @TJ<|ai @O2<|ai @F1<|ai @F0<|@ma.eq_1):=⟨@SQ,@MZ,@MM,@MT,@MG,@HL,@Oa,@DN,@Oc,@Ob,@HS,@N9,@N8,@IB,@IL,@IA,@IK,@TH,@TM,@IC,@IM,@O0,@O8,@HD,@HE,@KM,@KN,@O3,@ID,@O4,@IE,@TJ,@O2,@F1,@F0,@ma.eq_1⟩
theorem aei:type_of% (ai @Xs<|ai @S3<|ai @S0<|ai @S1<|ai @SX<|ai @To<|ai @HK<|ai @HN<|ai @No<|ai @Nr<|ai @Dw<|ai @Ns<|ai @Nq<|ai @Hy<|ai @Nn<|ai @Nl<|ai @Np<|ai @N6<|ai @N3<|ai @DM<|ai @N7<|ai @N5<|ai @HR<|ai @N2<|ai @N1<|ai @N4<|ai @Gk<|ai @zF<|ai @zC<|ai @zD<|ai @Lv<|ai @Lw<|ai @Xk<|ai @SD<|ai @Xj<|ai @SC<|ai @LX<|ai @LY<|ai @LZ<|ai @K3<|ai @Gj<|ai @OY<|ai @Iy<|ai @OZ<|ai @Iz<|ai @xv<|ai @uh<|ai @xu<|ai @ug<|ai @SL<|ai @L9<|ai @SJ<|ai @GY<|@L7):=⟨@Xs,@S3,@S0,@S1,@SX,@To,@HK,@HN,@No,@Nr,@Dw,@Ns,@Nq,@Hy,@Nn,@Nl,@Np,@N6,@N3,@DM,@N7,@N5,@HR,@N2,@N1,@N4,@Gk,@zF,@zC,@zD,@Lv,@Lw,@Xk,@SD,@Xj,@SC,@LX,@LY,@LZ,@K3,@Gj,@OY,@Iy,@OZ,@Iz,@xv,@uh,@xu,@ug,@SL,@L9,@SJ,@GY,@L7⟩
theorem v:type_of% (ai @vmc<|ai @vmk<|ai @vm1<|ai @vm2<|ai @vm3<|ai @vm4<|ai @vm5<|ai @vm6<|ai @vm7<|ai @vm8<|ai @aee<|ai @aeg<|ai @aeh<|ai @aei<|ai @vmu<|ai @Option.toList_some.{0}<|@Option.toList_none.{0}):=⟨@vmc,@vmk,@vm1,@vm2,@vm3,@vm4,@vm5,@vm6,@vm7,@vm8,@aee,@aeg,@aeh,@aei,@vmu,@Option.toList_some.{0},@Option.toList_none.{0}⟩
class wP (κ:Type) where
 k:κ->bV
 inj:∀x y,k x=k y->x=y
instance:wP Int:=⟨fun n=>(n,none),fun x y h=>by simpa using h⟩
instance:wP (Int×Int):=⟨fun p=>(p.1,some p.2),fun x y h=>by
 obtain⟨a,b⟩:=x
 obtain⟨c,d⟩:=y
 simpa using h⟩
def di {κ α:Type} [wP κ]:List (κ×α)->List bV
 | []=>[]
 | (k,_)::m=>wP.k k::di m
def e8 {κ α:Type} (A:Arg α):List (κ×α)->List D
 | []=>[]
 | (_,v)::m=>A.d v::e8 A m
theorem NR {κ α:Type} {A:Arg α} : e8 A ([]:List (κ×α))=[]:=ah6
section
variable {κ α:Type} [wP κ] {A:Arg α}
theorem M5 (k n:κ):wP.k k=wP.k n↔k=n:=⟨wP.inj _ _,fun h=>by rw[h]⟩
theorem NP:di ([]:List (κ×α))=[]:=ah6
theorem DC [DecidableEq κ] (n:κ):∀m:List (κ×α),(di m).contains (wP.k n)=UX m n
 | []=>rfl
 | (k,v)::m=>by
  have:=DC n m
  simp only[di,agx,UX,this]
  congr 1
  by_cases h:k=n
  ·subst h;rw[beq_self_eq_true,beq_self_eq_true]
  ·rw[beq_eq_false_iff_ne.2 h,beq_eq_false_iff_ne.2 (fun e=>h (wP.inj _ _ e.symm))]
theorem NO:∀m:List (κ×α),(di m).length=m.length
 | []=>rfl
 | (k,v)::m=>by simp[di,NO m]
theorem Hz [DecidableEq κ] (z:α) (n:κ):∀m:List (κ×α),nV (A.d z) (di m) (e8 A m) (wP.k n)=A.d (td z m n)
 | []=>rfl
 | (k,v)::m=>by
  simp only[di,e8,nV,td,Hz z n m,M5]
  by_cases h:k=n<;>simp[h]
theorem Ox [DecidableEq κ] (n:κ) (v:α):∀m:List (κ×α),wG (di m) (wP.k n)=di (Kc m n v)
 | []=>rfl
 | (k,x)::m=>by
  have ih:=Ox n v m
  unfold wG at ih ⊢
  simp only[di,Kc,agx]
  by_cases h:k=n
  ·subst h;simp[di]
  ·have h1:(wP.k n==wP.k k)=false:=by simpa [M5] using Ne.symm h
   rw[h1,agy,if_neg h]
   simp only[di]
   rw[<- ih]
   cases (di m).contains (wP.k n)<;>rfl
theorem Oz [DecidableEq κ] (n:κ) (v:α):∀m:List (κ×α),Bh (di m) (e8 A m) (wP.k n) (A.d v)=e8 A (Kc m n v)
 | []=>rfl
 | (k,x)::m=>by
  have ih:=Oz n v m
  unfold Bh at ih ⊢
  simp only[di,e8,Kc,agx]
  by_cases h:k=n
  ·subst h;simp[e8,agw]
  ·have h1:(wP.k n==wP.k k)=false:=by simpa [M5] using Ne.symm h
   have h2:(wP.k k==wP.k n)=false:=by simpa [M5] using h
   rw[h1,agy,if_neg h]
   simp only[e8,agw,h2,cond_false]
   rw[<- ih]
   cases (di m).contains (wP.k n)<;>rfl
theorem map_inj:∀ {m m':List (κ×α)},di m=di m'->e8 A m=e8 A m'->m=m'
 | [],[],_,_=>rfl
 | [],(k,v)::m',h,_=>by simp[di]at h
 | (k,v)::m,[],h,_=>by simp[di]at h
 | (k,v)::m,(k',v')::m',h,g=>by
  simp only[di,afT,M5]at h
  simp only[e8,afT]at g
  rw[h.1,A.inj _ _ g.1,map_inj h.2 g.2]
end
theorem Hp {α:Type} {n:Int} {m:List (Int×α)} : kJ false (n,none) (di m)=true:=by
 unfold kJ
 simp only[af6]
 refine⟨rfl,?_⟩
 induction m with
 | nil=>rfl
 | cons p m ih=>simp only[di,List.all_cons,af6];exact⟨rfl,ih⟩
theorem Hq {α:Type} {a b:Int} {m:List ((Int×Int)×α)} : kJ true (a,some b) (di m)=true:=by
 unfold kJ
 simp only[af6]
 refine⟨rfl,?_⟩
 induction m with
 | nil=>rfl
 | cons p m ih=>simp only[di,List.all_cons,af6];exact⟨rfl,ih⟩
def eMp {κ α:Type} [wP κ] (A:Arg α):gY (List (κ×α)):=⟨fun m=>[.mpc (di m) (e8 A m)],1,fun _=>rfl,by decide,fun x y h=>by
 simp only[afT,D.mpc.injEq,and_true]at h
 exact map_inj h.1 h.2⟩
theorem L0 {κ α:Type} [wP κ] (A:Arg α):(eMp A:gY (List (κ×α))).size=1:=ah6
def mkM {κ ν α β:Type} [wP κ] (ty:Nat) (V:Arg ν) (A:jM α) (F:List (κ×ν)->α->Option (List (κ×ν)×β)) (R:β->RK):Option (D×Row)->List D->Option (RK×Option Row):=fun lent ds =>
 match lent with
 | some (.mp 0 0,⟨0,ty',[.mpc ks vs],false,true,true⟩)=>open Classical in
  if h:ty'=ty∧∃p:List (κ×ν)×α,ks=di p.1∧vs=e8 V p.1∧ds=A.ds p.2 then
   (F (Classical.choose h.2).1 (Classical.choose h.2).2).map fun r=>(R r.2,some ⟨0,ty,[.mpc (di r.1) (e8 V r.1)],false,true,true⟩)
  else none
 | _=>none
theorem acf {κ ν α β:Type} [wP κ] (ty:Nat) (V:Arg ν) (A:jM α) (F:List (κ×ν)->α->Option (List (κ×ν)×β)) (R:β->RK) (l:List (κ×ν)) (a:α) :
  mkM ty V A F R (some (.mp 0 0,⟨0,ty,[.mpc (di l) (e8 V l)],false,true,true⟩)) (A.ds a)=(F l a).map fun r=>(R r.2,some ⟨0,ty,[.mpc (di r.1) (e8 V r.1)],false,true,true⟩):=by
 have h:ty=ty∧∃p:List (κ×ν)×α,di l=di p.1∧e8 V l=e8 V p.1∧A.ds a=A.ds p.2:=⟨rfl,(l,a),rfl,rfl,rfl⟩
 simp only[mkM]
 rw[dif_pos h]
 obtain⟨h1,h2,h3⟩:=Classical.choose_spec h.2
 rw[<- A.inj _ _ h3,<- map_inj h1 h2]
theorem X4 {κ ν α β:Type} [wP κ] {ty:Nat} {V:Arg ν} {A:jM α} {F:List (κ×ν)->α->Option (List (κ×ν)×β)} {R:β->RK} {lent:Option (D×Row)} {ds:List D} {rk:RK} {out:Option Row} (h:mkM ty V A F R lent ds=some (rk,out)) :
  ∃l a l' r,lent=some (.mp 0 0,⟨0,ty,[.mpc (di l) (e8 V l)],false,true,true⟩)∧ds=A.ds a∧F l a=some (l',r)∧rk=R r∧out=some ⟨0,ty,[.mpc (di l') (e8 V l')],false,true,true⟩:=by
 unfold mkM at h
 split at h
 ·split at h
  ·rename_i he
   obtain⟨rfl,he⟩:=he
   rw[aft]at h
   obtain⟨⟨l',r⟩,h1,h2⟩:=h
   simp only[Prod.mk.injEq]at h2
   obtain⟨rfl,rfl⟩:=h2
   obtain⟨g1,g2,g3⟩:=Classical.choose_spec he
   refine⟨_,_,l',r,?_,g3,h1,rfl,rfl⟩
   rw[<- g1,<- g2]
  ·cases h
 ·cases h
theorem bP.XT {P:Program} {T:Nat->Option Ty} {Γ:Env} (hT:gm P T) (hΓ:bA P Γ) (hm:P.follows .mixedOrders=true) {κ ν α β:Type} [wP κ] {ty:Nat} {V:Arg ν} {A:jM α} {F:List (κ×ν)->α->Option (List (κ×ν)×β)} {R:β->RK} {f:FuncId} {fn:Func} (hf:P.funcs[f]? = some fn) (hok:(match fn.body with|some c=>codeOk c|none=>true)=true)
  (hc:(fn.name == "runtime.NumGoroutine")=false∧fn.body.isNone=false) (hn:∀a,(A.ds a).length+1<=fn.ntmps)
  (h:∀l a l' r,F l a=some (l',r)->aW .clean T Γ FU fn (some (.mp 0 0,⟨0,ty,[.mpc (di l) (e8 V l)],false,true,true⟩)) (A.ds a)=some (R r,some ⟨0,ty,[.mpc (di l') (e8 V l')],false,true,true⟩)):bP P f (mkM ty V A F R) where
 calls lent afq rk out hg:=by
  obtain⟨l,a,l',r,rfl,rfl,hr,rfl,rfl⟩:=X4 hg
  exact iJ hT hΓ hm hf hok (hn a) rfl (h l a l' r hr)
 callable:=⟨fn,hf,hc⟩
theorem Pq {T:Nat->Option Ty} {Γ:Env} {F:Nat} {mode:Mode} {fn:Func} {c:Code} {n:Nat} {rs:List ResultVar} {d0:D} {ty:Nat} {cells:List D} {fz lst:Bool} {args:List D} {r:RK×Option Row} (hb:fn.body=some c) (hn:fn.ntmps=n) (hr:fn.results=rs.toArray)
  (hw:cA T Γ n F [.code c] (Xq mode T (some (d0,⟨0,ty,cells,fz,lst,true⟩)) rs r) .normal (E7 (d0::args)) (lB ⟨0,ty,cells,fz,lst,true⟩) 1) (hpk:n<=1000000:=by exact ahf rfl):aW mode T Γ F fn (some (d0,⟨0,ty,cells,fz,lst,true⟩)) args=some r:=by
 refine RG ?_ (by rw[hn];exact hpk)
 unfold wpf
 rw[hb,hn,hr]
 exact hw
def Z3 {α:Type} (e:gY α):Arg α:=⟨fun x =>.ip (e.cells x),fun x y h=>e.inj _ _ (by simpa using h)⟩
theorem aa1 {α:Type} (e:gY α) (x:α):(Z3 e).d x=.ip (e.cells x):=ah6
section
variable {T:Nat->Option Ty} {h:Nat->Option Row} {Γ:Env} {e:Nat} {dst:Option Nat}
def lvM (v:Nat):Option Row->Option (List bV×List D)
 | some r=>if r.v=v∧r.mp=true∧r.ty<900000 then (match r.cells with | [.mpc ks vs]=>some (ks,vs)|_=>none) else none
 | none=>none
theorem Nh {x v:Nat} : fV h x v=lvM v (h x):=by
 unfold fV lvM
 cases h x<;>rfl
theorem Nu {v ty:Nat} {ks:List bV} {vs:List D} {fz lst:Bool} (hty:ty<900000):lvM v (some ⟨v,ty,[.mpc ks vs],fz,lst,true⟩)=some (ks,vs):=by simp[lvM,hty]
def lkK (ks:List bV) (n:bV):Bool:=ks.contains n
theorem Ta {α:Type} {m:List (Int×α)} {n:Int} : lkK (di m) (n,none)=UX m n:=DC n m
theorem Tb {α:Type} {m:List ((Int×Int)×α)} {a b:Int} : lkK (di m) (a,some b)=UX m (a,b):=DC (a,b) m
def lkE (b ok:Bool) (z:D) (n:bV):Option (List bV×List D)->Option bt
 | some (ks,vs)=>if kJ b n ks=true then some ⟨if ok then .tup [nV z ks vs n,.bool (lkK ks n)] else nV z ks vs n,[]⟩ else none
 | none=>none
theorem abr {b:Bool} {z:D} {n:bV} {ks:List bV} {vs:List D} : lkE b true z n (some (ks,vs))=if kJ b n ks=true then some ⟨.tup [nV z ks vs n,.bool (lkK ks n)],[]⟩ else none:=ah6
theorem abq {b:Bool} {z:D} {n:bV} {ks:List bV} {vs:List D} : lkE b false z n (some (ks,vs))=if kJ b n ks=true then some ⟨nV z ks vs n,[]⟩ else none:=ah6
def Uo (T:Nat->Option Ty) (τ:Ty) (b:Bool) (d:D):Prop:=∃φ z,DD T τ=some (b,φ)∧iB φ (φ.zero.map kW)=some z∧(φ.zero.map kW).all aS=true∧eX z=d
theorem acb {τ:Ty} {b:Bool} {d:D} (hz:Uo T τ b d) {m i:D} {n:bV} {ok:Bool} (hi:U0 i=some n):fu T τ h m i ok=lkE b ok d n (mapOf h m):=by
 obtain⟨φ,z,h1,h2,h3,rfl⟩:=hz
 simp only[fu,h1,hi,lkE,lkK]
 cases mapOf h m with
 | none=>rfl
 | some p=>obtain⟨ks,vs⟩:=p;simp only[h2,h3,and_true]
theorem NQ {x v:Nat} : mapOf h (.mp x v)=fV h x v:=ah6
theorem HB {ks:List bV} {vs:List D} : mapOf h (.mpc ks vs)=some (ks,vs):=ah6
def muR (b:Bool) (h:Nat->Option Row) (y:Nat) (n:bV) (d:D) (fr:List Nat) (ks:List bV) (vs:List D):Option Row->Option bt
 | some r=>if kJ b n ks=true∧r.fz=false∧fr.contains y=false then some ⟨.und,gG h fr++[(y,some ⟨r.v,r.ty,[.mpc (wG ks n) (Bh ks vs n d)],false,true,true⟩)]⟩ else none
 | none=>none
theorem NW {b:Bool} {y v ty:Nat} {n:bV} {d:D} {fr:List Nat} {ks:List bV} {vs:List D} {cells:List D} {lst mp:Bool} : muR b h y n d fr ks vs (some ⟨v,ty,cells,false,lst,mp⟩)=if kJ b n ks=true then (if fr.contains y=false then some ⟨.und,gG h fr++[(y,some ⟨v,ty,[.mpc (wG ks n) (Bh ks vs n d)],false,true,true⟩)]⟩ else none) else none:=by
 simp only[muR,true_and]
 by_cases h1:kJ b n ks=true<;>simp[h1]
def muM (b:Bool) (h:Nat->Option Row) (y:Nat) (n:bV) (d:D) (fr:List Nat):Option (List bV×List D)->Option bt
 | some (ks,vs)=>muR b h y n d fr ks vs (h y)
 | none=>none
theorem NV {b:Bool} {y:Nat} {n:bV} {d:D} {fr:List Nat} {ks:List bV} {vs:List D} : muM b h y n d fr (some (ks,vs))=muR b h y n d fr ks vs (h y):=ah6
def muE (b:Bool) (h:Nat->Option Row) (y v:Nat) (n:bV):Option (D×List Nat)->Option bt
 | some (d,fr)=>muM b h y n d fr (fV h y v)
 | none=>none
theorem NU {b:Bool} {y v:Nat} {n:bV} {d:D} {fr:List Nat} : muE b h y v n (some (d,fr))=muM b h y n d fr (fV h y v):=ah6
theorem ach {τ:Ty} {b:Bool} {d:D} (hz:Uo T τ b d) {y v:Nat} {n:bV} {i x:D} (hi:U0 i=some n):cg T τ h (.mp y v) i x=muE b h y v n (si h x):=by
 obtain⟨φ,z,h1,_⟩:=hz
 simp only[cg,h1,hi]
 cases si h x with
 | none=>rfl
 | some p =>
  obtain⟨d,fr⟩:=p
  simp only[muE]
  cases hl:fV h y v with
  | none=>simp only[muM];cases h y<;>rfl
  | some q =>
   obtain⟨ks,vs⟩:=q
   simp only[muM]
   cases h y<;>rfl
def lnE:Option (List bV×List D)->Option bt
 | some (ks,_)=>some ⟨.int .i64 (ks.length:Nat),[]⟩
 | none=>none
theorem Nk {ks:List bV} {vs:List D} : lnE (some (ks,vs))=some ⟨.int .i64 (ks.length:Nat),[]⟩:=ah6
theorem HA {κ α:Type} [wP κ] {m:List (κ×α)} : (di m).length=m.length:=NO m
theorem Pn {k:IntKind} {n:Int} : si h (.int k n)=some (.int k n,[]):=ah6
theorem IY {b:Bool} : si h (.bool b)=some (.bool b,[]):=ah6
theorem Pm {xs:List D} : si h (.agg xs)=some (.agg (xs.map canon),[]):=ah6
theorem aav {τ:Ty} {b:Bool} {d:D} (hz:Uo T τ b d) {ty d':Nat} (hty:ty<900000):Vy T (some τ) ty e d'=some ⟨.mp d' e,[(d',some ⟨e,ty,[.mpc [] []],false,true,true⟩)]⟩:=by
 obtain⟨φ,z,h1,_⟩:=hz
 exact X8 h1 hty
def ldP (τ:Ty) (h:Nat->Option Row) (x v y:Nat):Option Row->Option bt
 | some r=>match r.cells with
  | [.alm y' v']=>if r.fz=true∧r.lst=false∧τ.size=1∧τ.ds.nd=false then some ⟨.mp y' v',[]⟩ else none
  | _=>none
 | none=>nL τ h x v y (kd h x v)
theorem abc {τ:Ty} {x v y:Nat} : lY τ h (.pm x v y)=ldP τ h x v y (live h x v):=by
 simp only[lY]
 cases live h x v with
 | none=>rfl
 | some r =>
  obtain⟨v',ty,cells,fz,lst,mp⟩:=r
  rcases cells with _|⟨c,_|⟨c',cs⟩⟩<;>rfl
theorem Nb {τ:Ty} {x v y:Nat} : ldP τ h x v y none=nL τ h x v y (kd h x v):=ah6
def ldQ (τ:Ty) (h:Nat->Option Row) (x y s n:Nat):Option Row->Option bt
 | some r=>if y=1000000+x∧r.mp=false∧r.lst=true∧r.cells.length=n*s∧τ.size=1 then some ⟨if τ.ds.nd then .agg [.sl false false n r.cells] else .sl false false n r.cells,gG h [y]⟩ else none
 | none=>none
theorem XP {τ:Ty} {r:Row} {x v y s n:Nat} : nL τ h x v y (some (r,y,s,n))=ldQ τ h x y s n (h y):=by
 simp only[nL,ldQ,PK]
 cases h y with
 | none=>rfl
 | some q=>simp
theorem Nd {ty b:Nat} {ds:Ds} {z:List Value} {q:Bool} {x y s n e':Nat} {cells:List D} {fz:Bool} : ldQ ⟨ds,1,b,z,q⟩ h x y s n (some ⟨e',ty,cells,fz,true,false⟩)=if y=1000000+x∧cells.length=n*s then some ⟨if ds.nd then .agg [.sl false false n cells] else .sl false false n cells,gG h [y]⟩ else none:=by
 simp[ldQ]
def ab3 (T:Nat->Option Ty) (x v k:Nat):Option (Row×Nat×Nat×Nat)->Option (Nat×Nat)->Option bt
 | some _,some (ft,0)=>match T ft with|some φ=>if φ.size=0 then none else some ⟨.pm x v k,[]⟩|none=>none
 | _,_=>none
theorem Hh {T:Nat->Option Ty} {x v k ft:Nat} {r:Row×Nat×Nat×Nat} : ab3 T x v k (some r) (some (ft,0))=match T ft with|some φ=>if φ.size=0 then none else some ⟨.pm x v k,[]⟩|none=>none:=ah6
theorem Xv {T:Nat->Option Ty} {b c:Nat} {z:List Value} {q:Bool} {fs:List (Nat×Nat)} {x v k i:Nat} : dC T ⟨.struct fs,b,c,z,q⟩ h i (.pm x v k)=ab3 T x v k (kd h x v) fs[i]?:=by
 simp only[dC,ab3]
 cases kd h x v with
 | none=>rfl
 | some r=>simp only;generalize fs[i]? = z;rcases z with _|⟨ft,_|off⟩<;>first|rfl|(simp;done)|(simp only;cases T ft<;>rfl)
def TO (x y s oy n k : Nat) : Option Row -> Option Row -> Option bt
  | some r, some q => if oy = 0 ∧ r.cells.length = 1 ∧ r.fz = false ∧ r.lst = false ∧ q.fz = false ∧ q.lst = true ∧ q.cells.length = n * s ∧ x ≠ y ∧ k = 1000000 + x ∧ x < 1000000 then
          some ⟨.und, [(y, none), (k, some ⟨0, q.ty, q.cells, false, true, false⟩), (x, some ⟨r.v, r.ty, [.ph k s n], false, false, true⟩)]⟩ else none
  | _, _ => none
theorem YU {ds:Ds} {b:Nat} {z:List Value} {q:Bool} {x v y vy s oy n k:Nat} : cJ ⟨ds,1,b,z,q⟩ h (.pm x v k) (.box1 y vy s oy n)=TO x y s oy n k (live h x v) (live h y vy):=by
 simp only[cJ,TO,PK,true_and]
 cases live h x v with
 | none=>rfl
 | some r=>cases live h y vy<;>rfl
theorem EJ {x y s oy n k v ty e' ty':Nat} {c:D} {cells:List D} : TO x y s oy n k (some ⟨v,ty,[c],false,false,false⟩) (some ⟨e',ty',cells,false,true,false⟩)=if oy=0∧cells.length=n*s∧¬x=y∧k=1000000+x∧x<1000000 then
  some ⟨.und,[(y,none),(k,some ⟨0,ty',cells,false,true,false⟩),(x,some ⟨v,ty,[.ph k s n],false,false,true⟩)]⟩ else none:=by
 simp[TO]
theorem Nc {v ty y' v':Nat} {b k el:Nat} {z:List Value} {q mp:Bool} {x0 v0 y0:Nat} : ldP ⟨.map k el,1,b,z,q⟩ h x0 v0 y0 (some ⟨v,ty,[.alm y' v'],true,false,mp⟩)=some ⟨.mp y' v',[]⟩:=by
 simp[ldP,Ds.nd]
def aaL (τ:Ty) (x y y' v':Nat) (m:Bool):Option Row->Option bt
 | some r=>if τ.size=1∧y'=y∧r.cells.length=1∧r.fz=false∧r.lst=false∧m then some ⟨.und,[(x,some ⟨r.v,r.ty,[.alm y' v'],true,false,false⟩)]⟩ else none
 | none=>none
theorem YT {τ:Ty} {x v y y' v':Nat} : cJ τ h (.pm x v y) (.mp y' v')=aaL τ x y y' v' (fV h y v').isSome (live h x v):=by
 simp only[cJ,aaL]
 cases live h x v<;>rfl
theorem IP {x y v' v ty:Nat} {c:D} {b:Nat} {ds:Ds} {z:List Value} {q mp:Bool} : aaL ⟨ds,1,b,z,q⟩ x y y v' true (some ⟨v,ty,[c],false,false,mp⟩)=some ⟨.und,[(x,some ⟨v,ty,[.alm y v'],true,false,false⟩)]⟩:=by
 simp[aaL]
theorem abu {x v:Nat} : nm (.mp x v)=[x]:=ah6
theorem Yf {ks:List bV} {vs:List D} : nm (.mpc ks vs)=[]:=ah6
theorem abv {x v y:Nat} : nm (.pm x v y)=[x,y]:=ah6
def clM (x:Nat):Option (List bV×List D)->Option (D×List Nat)
 | some (ks,vs)=>some (.mpc ks vs,[x])
 | none=>none
theorem Lo {x:Nat} {ks:List bV} {vs:List D} : clM x (some (ks,vs))=some (.mpc ks vs,[x]):=ah6
theorem Su {x v:Nat} : bE h (.mp x v)=clM x (fV h x v):=by
 simp only[bE,aN,clM]
 cases fV h x v<;>rfl
theorem Lh {ks:List bV} {vs:List D} : bE h (.mpc ks vs)=some (.mpc ks vs,[]):=ah6
theorem WQ {x v:Nat} : aN h (.mp x v)=clM x (fV h x v):=by
 simp only[aN,clM]
 cases fV h x v<;>rfl
theorem Sn {ks:List bV} {vs:List D} : aN h (.mpc ks vs)=some (.mpc ks vs,[]):=ah6
theorem WN {xs:List D} : aN h (.ip xs)=some (.ip xs,[]):=ah6
theorem Sp {x v o:Nat} : aN h (.ptr x v o)=clP x o (live h x v):=by
 simp only[aN]
 cases live h x v with
 | none=>rfl
 | some r=>simp only[clP]
def clN (x y:Nat):Option (List bV×List D)->Option (D×List Nat)
 | some (ks,vs)=>some (.ip [.mpc ks vs],[x,y])
 | none=>none
theorem Lp {x y:Nat} {ks:List bV} {vs:List D} : clN x y (some (ks,vs))=some (.ip [.mpc ks vs],[x,y]):=ah6
def clQ (h:Nat->Option Row) (x y:Nat):Option Row->Option (D×List Nat)
 | some r=>match r.cells with
  | [.alm y' v']=>if r.fz=true∧r.lst=false∧y'=y then clN x y (fV h y v') else none
  | _=>none
 | none=>none
theorem Ls {x y v' v ty:Nat} {mp:Bool} : clQ h x y (some ⟨v,ty,[.alm y v'],true,false,mp⟩)=clN x y (fV h y v'):=by
 simp[clQ]
theorem WR {x v y:Nat} : aN h (.pm x v y)=clQ h x y (live h x v):=by
 simp only[aN]
 cases live h x v with
 | none=>rfl
 | some r =>
  obtain⟨v',ty,cells,fz,lst,mp⟩:=r
  rcases cells with _|⟨c,_|⟨c',cs⟩⟩<;>rfl
theorem Tu {x v o:Nat} : im (.ptr x v o)=true:=ah6
theorem Yn {x v y:Nat} : im (.pm x v y)=true:=ah6
theorem Yl {xs:List D} : im (.ip xs)=true:=ah6
theorem Ym {x v:Nat} : im (.mp x v)=true:=ah6
theorem Tt {ks:List bV} {vs:List D} : im (.mpc ks vs)=true:=ah6
theorem Xz {v ty:Nat} {cells:List D} {fz mp:Bool} : pM ⟨v,ty,cells,fz,true,mp⟩=⟨v,ty,cells,true,true,mp⟩:=by cases fz<;>rfl
theorem SZ {d:Nat} : aY.hint d=none:=ah6
theorem MJ {f:Nat} {l:Bool} {G:Option (D×Row)->List D->Option (RK×Option Row)} {d:Nat} : (Am.ext Γ f l G).hint d=Γ.hint d:=ah6
theorem Hn {d i:Nat} : (Am.keep d Γ).hint i=Γ.hint i:=ah6
theorem Hm {d y i:Nat} : (Am.vK d y Γ).hint i=if i=d then some y else Γ.hint i:=ah6
theorem MN {d y i:Nat} : (Am.vK d y Γ).own i=Γ.own i:=ah6
theorem Dh {d y i:Nat} : (Am.vK d y Γ).lends i=Γ.lends i:=ah6
theorem MO {d y i:Nat} {lent:Option (D×Row)} {afq:List D} : (Am.vK d y Γ).sem i lent afq=Γ.sem i lent afq:=ah6
theorem Hg {ks:List bV} {vs:List D} : fI (.mpc ks vs)=false:=ah6
theorem Gp {ks:List bV} {vs:List D} : canon (.mpc ks vs)=.mpc ks vs:=ah6
theorem Cc {ks:List bV} {vs:List D} : eX (.mpc ks vs)=.mpc ks vs:=ah6
end
structure se {α:Type} (E:gY α) (C:List D) (o:Nat) (l:List α):Prop where
 fit:o+l.length*E.size<=C.length
 eq:(C.drop o).take (l.length*E.size)=ab E l
theorem se.self {α:Type} (E:gY α) (l:List α):se E (ab E l) 0 l:=⟨by rw[bu];omega,by rw[agX,<- bu,ahw]⟩
theorem se.split {α:Type} {E:gY α} {C:List D} {o:Nat} {l:List α} (F:se E C o l):C.drop o=ab E l++C.drop (o+l.length*E.size):=by
 rw[<- ahj]
 conv=>lhs;rw[<- ahk (l.length*E.size) (C.drop o)]
 rw[F.eq]
theorem se.idx {α:Type} {E:gY α} {C:List D} {o:Nat} {l:List α} {i:Int} {x:α} (F:se E C o l) (h:P.idx l i=some x):o+i.toNat*E.size+E.size<=C.length∧∃rest,C.drop (o+i.toNat*E.size)=E.cells x++rest:=by
 have h1:=re E h
 have h2:=F.fit
 refine⟨by omega,ab E (l.drop (i.toNat+1))++C.drop (o+l.length*E.size),?_⟩
 rw[<- ahj,F.split,agS (by rw[bu];omega),Bx E h,agR]
theorem se.tail {α:Type} {E:gY α} {C:List D} {o:Nat} {l m:List α} {a:Int} (F:se E C o l) (h:Bm l a (l.length:Int)=some m):se E C (o+a.toNat*E.size) m:=by
 obtain⟨h1,h2,h3,h4,h5⟩:=YJ E h
 have h6:=F.fit
 have h7:a.toNat*E.size+m.length*E.size=l.length*E.size:=by rw[<- agJ];congr 1;omega
 refine⟨by omega,?_⟩
 rw[<- ahj,F.split,agS (by rw[bu];omega),agV (by rw[afP,bu];omega),h5]
theorem aej:type_of% (ai @NP<|ai @NR<|ai @Nh<|ai @Nu<|ai @Ta<|ai @Tb<|ai @Hp<|ai @Hq<|ai @Nk<|ai @HA<|ai @abr<|ai @abq<|ai @NQ<|ai @HB<|ai @NW<|ai @NV<|ai @NU<|ai @Pn<|ai @IY<|ai @Pm<|ai @abc<|ai @Nc<|ai @YT<|ai @IP<|ai @abu<|ai @Yf<|@abv):=⟨@NP,@NR,@Nh,@Nu,@Ta,@Tb,@Hp,@Hq,@Nk,@HA,@abr,@abq,@NQ,@HB,@NW,@NV,@NU,@Pn,@IY,@Pm,@abc,@Nc,@YT,@IP,@abu,@Yf,@abv⟩
theorem aek:type_of% (ai @Lo<|ai @Su<|ai @Lh<|ai @WQ<|ai @Sn<|ai @WN<|ai @Sp<|ai @Lp<|ai @Ls<|ai @WR<|ai @Tu<|ai @Yn<|ai @Yl<|ai @Ym<|ai @Tt<|ai @XA<|ai @Xy<|ai @Xz<|ai @SZ<|ai @MJ<|ai @Hn<|ai @Hm<|ai @MN<|ai @Dh<|ai @MO<|ai @H2<|ai @H0<|ai @Hg<|ai @Gp<|ai @Cc<|ai @L0<|@aa1):=⟨@Lo,@Su,@Lh,@WQ,@Sn,@WN,@Sp,@Lp,@Ls,@WR,@Tu,@Yn,@Yl,@Ym,@Tt,@XA,@Xy,@Xz,@SZ,@MJ,@Hn,@Hm,@MN,@Dh,@MO,@H2,@H0,@Hg,@Gp,@Cc,@L0,@aa1⟩
theorem ael:type_of% (ai @zM<|ai @zQ<|ai @Cp<|ai @Cs<|ai @vA<|ai @vE<|ai @Co<|ai @Cr<|ai @vX<|ai @yv<|ai @sd<|ai @yu<|ai @Wv<|ai @R8<|@Ww):=⟨@zM,@zQ,@Cp,@Cs,@vA,@vE,@Co,@Cr,@vX,@yv,@sd,@yu,@Wv,@R8,@Ww⟩
theorem aef:type_of% (ai @Nb<|ai @XP<|ai @Nd<|ai @YU<|ai @EJ<|ai @Hh<|@Xv):=⟨@Nb,@XP,@Nd,@YU,@EJ,@Hh,@Xv⟩
theorem vi:type_of% (ai @aej<|ai @aek<|ai @aef<|@ael):=⟨@aej,@aek,@aef,@ael⟩
def ac4 (P:Program) (f:FuncId):Prop:=∀(blk off cap:Nat) (zs:List Int) (w:World),Go.Sort.Holds (Value.int .i64) w blk off zs.toArray->blk<w.heap.size->zs.length<4611686018427387904 ->
 Calls P f #[.slice (some ⟨blk,off,none⟩) zs.length cap] w fun e w'=>e=.returned (.tuple #[])∧∃n os,w'=Go.Sort.grow (Go.Sort.putRow (Value.int .i64) (Go.Sort.ahead w n) blk off (AP zs).toArray) os
theorem sY (k:IntKind):∀(l:List Int) (j:Nat),(ab (eI k) l)[j]? = l[j]?.map fun n =>.int k n
 | [],j=>by simp[ab]
 | x::l,0=>by simp[ab,eI]
 | x::l,j+1=>by
  have:=sY k l j
  simp only[ab,xj,List.cons_append,List.nil_append,List.getElem?_cons_succ]
  exact this
theorem mN (k:IntKind) (l:List Int):(ab (eI k) l).length=l.length:=by rw[bu];show l.length*1=_;omega
theorem Oy {w:World} {b off:Nat} {d:List Int} {cs:Array Value} {ty:Nat} {fr:Nat×Nat} (h:w.heap[b]? = some (.cells cs ty fr)):(Go.Sort.putRow (Value.int .i64) w b off d.toArray).heap[b]? = some (.cells (Go.Sort.putCells (Value.int .i64) off d.toArray cs) ty fr):=by
 simp[Go.Sort.putRow,Go.Sort.mapBlock,afF,h,Go.Sort.onCells]
theorem Eg {w:World} {b c off:Nat} {d:List Int} (h:c≠b):(Go.Sort.putRow (Value.int .i64) w b off d.toArray).heap[c]? = w.heap[c]?:=by
 simp[Go.Sort.putRow,Go.Sort.mapBlock,afF,Ne.symm h]
theorem J9 {off:Nat} {d:List Int} {cs:Array Value} {k:Nat} (hk:k<cs.size):(Go.Sort.putCells (Value.int .i64) off d.toArray cs).getD k undef=if off<=k∧k<off+d.length then .int .i64 (d.getD (k-off) 0) else cs.getD k undef:=by
 have h1:(Go.Sort.putCells (Value.int .i64) off d.toArray cs)[k]? = some (if off<=k∧k<off+d.length then .int .i64 (d.getD (k-off) 0) else cs[k]):=by
  simp only[Go.Sort.putCells,Array.getElem?_mapIdx,agG hk,Option.map_some,agP]
  congr 1
  split
  ·rename_i hc
   congr 1
   have:k-off<d.length:=by omega
   simp[List.getD,this]
  ·rfl
 rw[afA,h1]
 simp[afA,hk]
end Go.Proofs.YtmcncjgbkobjnaaGreat.Am
namespace Go.Proofs.YtmcncjgbkobjnaaGreat.P
open Go.RowKit
theorem wrap64 {x:Int} (h1 : -9223372036854775808<=x) (h2:x<9223372036854775808):IntKind.i64.wrap x=x:=by
 have key:IntKind.i64.wrap x=if x % 18446744073709551616>=9223372036854775808 then x % 18446744073709551616-18446744073709551616 else x % 18446744073709551616:=by
  unfold IntKind.wrap
  by_cases h:x % 18446744073709551616>=9223372036854775808
  ·rw[if_pos h];exact if_pos (by simpa [IntKind.bits,IntKind.signed] using h)
  ·rw[if_neg h];exact if_neg (by simpa [IntKind.bits,IntKind.signed] using h)
 rw[key]
 split<;>omega
theorem MQ {α:Type} {l:List α} {i:Int} {x:α} (h0:0<=i) (h:l[i.toNat]? = some x):P.idx l i=some x:=by
 have:=(afY.1 h).1
 unfold P.idx
 rw[if_pos ⟨h0,by omega⟩,h]
theorem cN {α:Type} {l:List α} {i:Nat} (h:i<l.length):P.idx l (i:Int)=some (l[i]):=MQ (by omega) (by simp[h])
theorem aaI {α:Type} {l:List α} {i:Nat} (h:i<=l.length):Bm l 0 (i:Int)=some (l.take i):=by
 unfold Bm
 rw[if_pos ⟨by omega,by omega,by omega⟩]
 simp
end Go.Proofs.YtmcncjgbkobjnaaGreat.P
namespace Go.Proofs.YtmcncjgbkobjnaaGreat.Am
open Go.RowKit Go.Deep Go.ChangeShapes Go.WideShapes
def E5 (T:Nat->Option Ty):Nat->Nat->List D->Prop
 | 0,_,_=>False
 | n+1,t,xs =>
  match T t with
  | none=>False
  | some τ=>xs.length=τ.size ∧
   match τ.ds with
   | .int k=>∃i,xs=[.int k i]∧(Lit.int k i).wf=true
   | .bool=>∃b,xs=[.bool b]
   | .str=>∃s:ByteArray,xs=[.str s]∧s.size<=140737488351232
   | .slice e=>∃len ys φ,xs=[.sl false false len ys]∧len*φ.bytes<=140737488351232∧T e=some φ∧ys.length=len*φ.size∧∀i,i<len->E5 T n e ((ys.drop (i*φ.size)).take φ.size)
   | .struct fs=>∀f∈fs,∃φ,T f.1=some φ∧E5 T n f.1 ((xs.drop f.2).take φ.size)
   | .arr m e=>∃φ,T e=some φ∧∀i,i<m->E5 T n e ((xs.drop (i*φ.size)).take φ.size)
   | .map _ _=>False
   | .other=>False
def Aj (T:Nat->Option Ty):Nat->List (Nat×Nat)->Nat->Bool
 | o,[],z=>o==z
 | o,(ft,off)::fs,z=>off==o&&match T ft with|some φ=>Aj T (o+φ.size) fs z|none=>false
def VB (T:Nat->Option Ty):Nat->Nat->Bool
 | 0,_=>false
 | n+1,t =>
  match T t with
  | none=>false
  | some τ =>
   match τ.ds with
   | .int _ | .bool | .str=>τ.size==1
   | .slice e=>τ.size==1&&VB T n e&&(match T e with|some φ=>decide (0<φ.size)|none=>false)
   | .struct fs=>Aj T 0 fs τ.size&&fs.all fun f=>VB T n f.1
   | .arr m e=>VB T n e&&(match T e with|some φ=>τ.size==m*φ.size|none=>false)
   | .map _ _=>false
   | .other=>false
def lf (w:World) (M:Nat->Prop) (xs:List D) (cs:List Value):Prop:=xs.length=cs.length∧∀(j:Nat) (x:D),xs[j]? = some x->aS x=true∧∃v,cs[j]? = some v∧RP w M x v
theorem lf.append {w:World} {M:Nat->Prop} {xs ys:List D} {cs ds:List Value} (h:lf w M xs cs) (k:lf w M ys ds):lf w M (xs++ys) (cs++ds):=by
 refine⟨by simp[h.1,k.1],fun j x hj =>?_⟩
 rw[agc]at hj ⊢
 rw[<- h.1]
 split at hj
 ·rename_i hlt;rw[if_pos hlt];exact h.2 j x hj
 ·rename_i hlt;rw[if_neg hlt];exact k.2 _ x hj
theorem CZ {α:Type} (s:Nat):∀(ls:List (List α)),(∀l∈ls,l.length=s)->∀(i:Nat) (l:List α),ls[i]? = some l->(ls.flatten.drop (i*s)).take s=l
 | [],_,i,l,h=>by simp at h
 | a::ls,hl,0,l,h=>by
  simp only[List.getElem?_cons_zero,afE]at h
  subst h
  have:a.length=s:=hl a (by simp)
  simp[this]
 | a::ls,hl,i+1,l,h=>by
  have ha:a.length=s:=hl a (by simp)
  rw[List.flatten_cons,ahg,ahh (by rw[ha,ags];omega),ahe,ha,ags,ahi]
  exact CZ s ls (fun x hx=>hl x (ag3 _ hx)) i l h
theorem Mi {α:Type} (s:Nat):∀(ls:List (List α)),(∀l∈ls,l.length=s)->ls.flatten.length=ls.length*s
 | [],_=>by simp
 | a::ls,hl=>by
  rw[List.flatten_cons,agF,Mi s ls (fun x hx=>hl x (ag3 _ hx)),hl a (by simp),afV,ags]
  omega
section
variable {H:Type} {enc:TypeId×Value->H} {P:Program} {w:World} {base:Nat} {spare:Nat->Bool} {held:Bool} {T:Nat->Option Ty}
theorem dc.bytesOf {P:Program} {t:Nat} {τ:Ty} (h:dc P t τ):P.bytesOf t=τ.bytes:=by
 have:=h.info
 unfold Program.bytesOf
 cases hi:P.info? t with
 | none=>rw[hi]at this;simp at this
 | some i=>rw[hi]at this;simp only[Option.map_some,afE,Prod.mk.injEq]at this;simp[this.2.1]
def Reach (P:Program) (t:Nat) (d:DataW H):Prop:=∀k∈d.weights P t,k<=140737488351232
theorem zd {e:TypeId} : ∀(l:List (DataW H)) (j:Nat) (d:DataW H),l[j]? = some d->∀k∈d.weights P e,k∈DataW.weightsAll P e l
 | x::l,0,d,h,k,hk=>by
  simp only[List.getElem?_cons_zero,afE]at h
  subst h
  simp only[DataW.weightsAll,agL]
  exact .inl hk
 | x::l,j+1,d,h,k,hk=>by
  simp only[DataW.weightsAll,agL]
  exact .inr (zd l j d (by simpa using h) k hk)
 | [],j,d,h,k,hk=>by simp at h
theorem dc.cells {P:Program} {t:Nat} {τ:Ty} (h:dc P t τ):P.cellsOf t=τ.size:=by
 have:=h.info
 unfold Program.cellsOf
 cases hi:P.info? t with
 | none=>rw[hi]at this;simp at this
 | some i=>rw[hi]at this;simp only[Option.map_some,afE,Prod.mk.injEq]at this;simp[this.1]
theorem S5 {T:Nat->Option Ty} {w:World} {M:Nat->Prop} {cs:List Value} : ∀(fs:List (Nat×Nat)) (o z:Nat) (f:Nat×Nat->List D),Aj T o fs z=true->cs.length=z ->
  (∀p∈fs,∃φ,T p.1=some φ∧lf w M (f p) ((cs.drop p.2).take φ.size))->o<=z->∃xs,lf w M xs (cs.drop o)∧∀p∈fs,∃φ,T p.1=some φ∧o<=p.2∧(xs.drop (p.2-o)).take φ.size=f p
 | [],o,z,f,hl,hc,_,_=>by
  simp only[Aj,beq_iff_eq]at hl
  refine⟨[],⟨by rw[afP,hc,hl];simp,fun j x hj=>by simp at hj⟩,fun p hp=>by simp at hp⟩
 | (ft,off)::fs,o,z,f,hl,hc,hp,hoz=>by
  simp only[Aj,af6,beq_iff_eq]at hl
  obtain⟨rfl,hl⟩:=hl
  obtain⟨φ,hφ,hR⟩:=hp (ft,off) (by simp)
  simp only[hφ]at hl
  have hz:off+φ.size<=z:=by
   have:∀(fs:List (Nat×Nat)) (o:Nat),Aj T o fs z=true->o<=z:=by
    intro fs
    induction fs with
    | nil=>intro o h;simp only[Aj,beq_iff_eq]at h;omega
    | cons p fs ih =>
     intro o h
     obtain⟨a,b⟩:=p
     simp only[Aj,af6]at h
     have h2:=h.2
     split at h2
     ·have:=ih _ h2;omega
     ·cases h2
   exact this fs _ hl
  obtain⟨xs,hx,hxs⟩:=S5 fs (off+φ.size) z f hl hc (fun p h=>hp p (ag3 _ h)) hz
  have hfl:(f (ft,off)).length=φ.size:=by
   rw[hR.1,afO,afP,hc];omega
  refine⟨f (ft,off)++xs,?_,fun p h =>?_⟩
  ·have:=hR.append hx
   rw[<- ahj,ahk]at this
   exact this
  ·rcases afC.1 h with rfl|h
   ·exact⟨φ,hφ,afv _,by simp only[agH,agX];rw[agV (by omega),agW (by omega)]⟩
   ·obtain⟨ψ,h1,h2,h3⟩:=hxs p h
    refine⟨ψ,h1,by omega,?_⟩
    rw[ahg,ahh (by omega),ahe,hfl]
    have:p.2-off-φ.size=p.2-(off+φ.size):=by omega
    rw[this,h3]
theorem lf.one {w:World} {M:Nat->Prop} {x:D} {v:Value} (hp:aS x=true) (h:RP w M x v):lf w M [x] [v]:=by
 refine⟨rfl,fun j y hj =>?_⟩
 match j,hj with
 | 0,hj=>simp only[List.getElem?_cons_zero,afE]at hj;subst hj;exact⟨hp,v,rfl,h⟩
 | j+1,hj=>simp at hj
theorem lf.flat {w:World} {M:Nat->Prop} {cs:List Value} {s:Nat} : ∀(ls:List (List D)) (o:Nat),(∀(i:Nat) l,ls[i]? = some l->lf w M l ((cs.drop (o+i*s)).take s))->(∀l∈ls,l.length=s)->lf w M ls.flatten ((cs.drop o).take (ls.length*s))
 | [],o,_,_=>⟨by simp,fun j x hj=>by simp at hj⟩
 | a::ls,o,h,hl=>by
  have h0:=h 0 a rfl
  have h1:=lf.flat ls (o+s) (fun i l hi=>by
   have:=h (i+1) l (by simpa using hi)
   rw[ags]at this
   rw[show o+s+i*s=o+(i*s+s) by omega]
   exact this) (fun l hx=>hl l (ag3 _ hx))
  have:=h0.append h1
  rw[Nat.zero_mul,af4]at this
  rw[List.flatten_cons,afV,ags,Nat.add_comm (ls.length*s) s,List.take_add,ahj]
  exact this
theorem abU (hT:gm P T) {M:Nat->Prop} (hM:∀b,base<=b->b<w.heap.size->¬M b):∀(n t fuel:Nat) (cs:List Value) (x:DataW H×List MemPlace),VB T n t=true->DataW.trod enc P w base spare held fuel t cs=some x->Reach P t x.1->∃xs,E5 T n t xs∧lf w M xs cs:=by
 intro n
 induction n with
 | zero=>intro t fuel cs x h;cases h
 | succ n ih =>
  intro t fuel cs x hok h hw
  unfold VB at hok
  unfold E5
  cases hτ:T t with
  | none=>rw[hτ]at hok;cases hok
  | some τ =>
   rw[hτ]at hok
   simp only at hok ⊢
   obtain⟨d,hd,hc⟩:=under hT hτ
   cases hds:τ.ds with
   | int k =>
    rw[hds]at hok hc
    simp only[beq_iff_eq]at hok
    have hd':=xa hc
    subst hd'
    obtain⟨i,rfl,_,hw⟩:=DataW.trod_int hd h
    exact⟨[.int k i],⟨by rw[hok];rfl,i,rfl,hw⟩,.one rfl (.int k i)⟩
   | bool =>
    rw[hds]at hok hc
    simp only[beq_iff_eq]at hok
    have hd':=uc hc
    subst hd'
    obtain⟨b,rfl,_⟩:=DataW.trod_bool hd h
    exact⟨[.bool b],⟨by rw[hok];rfl,b,rfl⟩,.one rfl (.bool b)⟩
   | str =>
    rw[hds]at hok hc
    simp only[beq_iff_eq]at hok
    have hd':=pI hc
    subst hd'
    obtain⟨s,rfl,rfl,hs⟩:=DataW.trod_string hd h
    have hs':s.size<=140737488351232:=by
     have:=hw s.data.toList.length (by simp[DataW.weights])
     simpa using this
    exact⟨[.str s],⟨by rw[hok];rfl,s,rfl,hs'⟩,.one rfl (.str s)⟩
   | map _ _=>rw[hds]at hok;cases hok
   | other=>rw[hds]at hok;cases hok
   | struct fs =>
    rw[hds]at hok hc
    simp only[af6,afG]at hok
    obtain⟨F,rfl,hF⟩:=fU hc
    obtain⟨ys,m,_,rfl,hlen,hyl,hf⟩:=DataW.trod_struct hd h
    have hwy:∀(i:Nat) (f:Field) y,F[i]? = some f->ys[i]? = some y->Reach P f.type y.1:=by
     intro i f y hfi hyi k hk
     apply hw k
     simp only[DataW.weights,hd]
     exact DataW.weights_mem_each (j:=i) (t:=f.type) (d:=y.1) (by rw[afs,agm,hfi];rfl) (by simp[hyi]) k hk
    rw[(hT t τ hτ).cells]at hlen
    have hone:∀p:Nat×Nat,∃zs,p∈fs->∃φ,T p.1=some φ∧E5 T n p.1 zs∧lf w M zs ((cs.drop p.2).take φ.size):=by
     intro p
     by_cases hp:p∈fs
     ·have hokp:=hok.2 p hp
      rw[<- hF]at hp
      obtain⟨f,hfm,rfl⟩:=afu.1 hp
      obtain⟨i,hi⟩:=List.mem_iff_getElem?.1 hfm
      have h1:=hf i f (by simpa using hi)
      simp only at hokp ⊢
      cases hφ:T f.type with
      | none=>cases n with
       | zero=>cases hokp
       | succ n=>simp only[VB,hφ]at hokp;cases hokp
      | some φ =>
       rw[(hT _ φ hφ).cells]at h1
       have hi':i<ys.length:=by
        have:=(afY.1 hi).1
        simp only[Array.length_toList]at this
        omega
       rw[afI hi']at h1
       obtain⟨zs,hz1,hz2⟩:=ih _ _ _ _ hokp h1 (hwy i f _ (by simpa using hi) (afI hi'))
       exact⟨zs,fun _=>⟨φ,rfl,hz1,hz2⟩⟩
     ·exact⟨[],fun h=>(hp h).elim⟩
    obtain⟨f,hf2⟩:=Classical.axiomOfChoice hone
    obtain⟨xs,hx,hparts⟩:=S5 fs 0 τ.size f hok.1 hlen (fun p hp=>by obtain⟨φ,a,_,b⟩:=hf2 p hp;exact⟨φ,a,b⟩) (afw _)
    rw[agX]at hx
    refine⟨xs,⟨by rw[hx.1,hlen],fun p hp =>?_⟩,hx⟩
    obtain⟨φ,h1,_,h3⟩:=hparts p hp
    obtain⟨ψ,g1,g2,_⟩:=hf2 p hp
    rw[h1]at g1
    cases g1
    rw[Nat.sub_zero]at h3
    exact⟨φ,h1,by rw[h3];exact g2⟩
   | arr m e =>
    rw[hds]at hok hc
    simp only[af6]at hok
    have hd':=w9 hc
    subst hd'
    obtain⟨ys,k,_,rfl,hlen,hyl,hf⟩:=DataW.trod_array hd h
    have hwy:∀(i:Nat) y,ys[i]? = some y->Reach P e y.1:=by
     intro i y hyi k hk
     apply hw k
     simp only[DataW.weights,hd]
     exact zd _ i y.1 (by simp[hyi]) k hk
    rw[(hT t τ hτ).cells]at hlen
    obtain⟨hok1,hok2⟩:=hok
    split at hok2
    ·rename_i φ hφ
     simp only[beq_iff_eq]at hok2
     have hone:∀i:Nat,∃zs,i<m->E5 T n e zs∧lf w M zs ((cs.drop (i*φ.size)).take φ.size):=by
      intro i
      by_cases hi:i<m
      ·have h1:=hf i hi
       rw[(hT _ φ hφ).cells,afI (by omega)]at h1
       obtain⟨zs,hz1,hz2⟩:=ih _ _ _ _ hok1 h1 (hwy i _ (afI (by omega)))
       exact⟨zs,fun _=>⟨hz1,hz2⟩⟩
      ·exact⟨[],fun h=>(hi h).elim⟩
     obtain⟨f,hf2⟩:=Classical.axiomOfChoice hone
     have hls:∀l∈(List.range m).map f,l.length=φ.size:=by
      intro l hl
      obtain⟨i,hi,rfl⟩:=afu.1 hl
      have hi:=ahb.1 hi
      rw[(hf2 i hi).2.1,afO,afP,hlen,hok2]
      have:(i+1)*φ.size<=m*φ.size:=agi _ hi
      rw[ags]at this
      omega
     have hget:∀(i:Nat) l,((List.range m).map f)[i]? = some l->i<m∧l=f i:=by
      intro i l hl
      rw[afs,aft]at hl
      obtain⟨j,hj,rfl⟩:=hl
      obtain⟨hj1,hj2⟩:=afY.1 hj
      simp only[af0]at hj1
      simp only[af1]at hj2
      exact⟨hj1,by rw[hj2]⟩
     have hall:lf w M ((List.range m).map f).flatten ((cs.drop 0).take (((List.range m).map f).length*φ.size)):=by
      refine lf.flat _ 0 (fun i l hl =>?_) hls
      obtain⟨hi,rfl⟩:=hget i l hl
      rw[agj]
      exact (hf2 i hi).2
     rw[afZ,af0,agX,agW (by omega)]at hall
     refine⟨_,⟨by rw[hall.1,hlen],φ,hφ,fun i hi =>?_⟩,hall⟩
     have hi':((List.range m).map f)[i]? = some (f i):=by simp[hi]
     rw[CZ φ.size _ hls i _ hi']
     exact (hf2 i hi).1
    ·cases hok2
   | slice e =>
    rw[hds]at hok hc
    simp only[af6,beq_iff_eq]at hok
    have hd':=eY hc
    subst hd'
    obtain⟨⟨hone,hoke⟩,hpos⟩:=hok
    split at hpos
    ·rename_i φ hφ
     simp only[decide_eq_true_eq]at hpos
     rcases open_slice hd h with⟨rfl,_⟩|⟨a,len,cap,m,k,D',Pl,rfl,hb,hl,hm,hmm,rfl,hi⟩
     ·refine⟨[.sl false false 0 []],⟨by rw[hone];rfl,0,[],φ,rfl,by omega,hφ,by simp,fun i hi=>by omega⟩,.one rfl ?_⟩
      exact .sl none 0 false false 0 [] (fun _=>undef) (afv _) (afw _) (fun h=>by cases h) (fun _=>⟨rfl,rfl⟩) (fun h=>by cases h) (fun h=>(h rfl).elim) (fun j x hj=>by simp at hj) (fun x hx=>by simp at hx)
     ·have hlm:len<=m:=by rw[hmm];split<;>omega
      have hwl:len*φ.bytes<=140737488351232:=by
       have h1:=hw ((((List.range len).map D').length+((List.range (m-len)).map fun j=>D' (len+j)).length)*P.bytesOf e) (by simp[DataW.weights,hd])
       rw[(hT _ φ hφ).bytesOf]at h1
       simp only[afZ,af0]at h1
       exact afx (agi _ (by omega)) h1
      have hwy:∀i,i<len->Reach P e (D' i):=by
       intro i hi' k hk
       apply hw k
       simp only[DataW.weights,hd,afC,agL]
       exact .inr (.inl (zd _ i (D' i) (by simp[hi']) k hk))
      have hone':∀i:Nat,∃zs,i<len->E5 T n e zs∧zs.length=φ.size∧∀(j:Nat) z,zs[j]? = some z->aS z=true∧∃v,w.cell? (a.add (i*φ.size+j))=some v∧RP w M z v:=by
       intro i
       by_cases hil:i<len
       ·obtain⟨cs',hc1,hc2⟩:=hi i (by omega)
        rw[(hT _ φ hφ).cells]at hc1
        obtain⟨_,g1,g2⟩:=World.cells?_some hc1
        obtain⟨zs,hz1,hz2⟩:=ih _ _ _ _ hoke hc2 (hwy i hil)
        refine⟨zs,fun _=>⟨hz1,by rw[hz2.1,g1],fun j z hj =>?_⟩⟩
        obtain⟨p1,v,p2,p3⟩:=hz2.2 j z hj
        refine⟨p1,v,?_,p3⟩
        have hj':j<φ.size:=by rw[<- g1];exact (afY.1 p2).1
        rw[<- Go.Deep.add_add,g2 j hj',p2]
       ·exact⟨[],fun h=>(hil h).elim⟩
      obtain⟨f,hf2⟩:=Classical.axiomOfChoice hone'
      have hls:∀l∈(List.range len).map f,l.length=φ.size:=by
       intro l hl
       obtain⟨i,hi,rfl⟩:=afu.1 hl
       exact (hf2 i (ahb.1 hi)).2.1
      have hfl:((List.range len).map f).flatten.length=len*φ.size:=by rw[Mi φ.size _ hls];simp
      have hseg:∀i,i<len->(((List.range len).map f).flatten.drop (i*φ.size)).take φ.size=f i:=fun i hi=>CZ φ.size _ hls i (f i) (by simp[hi])
      have hat:∀(p:Nat) z,((List.range len).map f).flatten[p]? = some z->aS z=true∧∃v,w.cell? (a.add p)=some v∧RP w M z v:=by
       intro p z hp
       have hpl:=(afY.1 hp).1
       rw[hfl]at hpl
       have hq:p / φ.size<len:=Nat.div_lt_of_lt_mul (by rwa [agt])
       have hr:p % φ.size<φ.size:=Nat.mod_lt _ hpos
       have he:p / φ.size*φ.size+p % φ.size=p:=Nat.div_add_mod' p φ.size
       have hz:(f (p / φ.size))[p % φ.size]? = some z:=by
        rw[<- hseg _ hq,afL,if_pos hr,afM,he]
        exact hp
       have:=(hf2 _ hq).2.2 _ z hz
       rw[he]at this
       exact this
      refine⟨[.sl false false len ((List.range len).map f).flatten],⟨by rw[hone];rfl,len,_,φ,rfl,hwl,hφ,hfl,fun i hi=>by rw[hseg i hi];exact (hf2 i hi).1⟩,.one rfl ?_⟩
      refine .sl (some a) cap false false len _ (fun j=>(w.cell? (a.add j)).getD undef) hl hm (fun h=>by cases h) (fun h=>by cases h) (fun h=>by cases h) (fun hne =>?_) (fun j z hj =>?_) (fun z hz =>?_)
      ·have h0:0<((List.range len).map f).flatten.length:=ahl.2 hne
       obtain⟨_,v,hv,_⟩:=hat 0 _ (afI h0)
       obtain⟨b,o,sp⟩:=a
       have hsp:sp=none:=by
        unfold World.cell? at hv
        split at hv
        ·split at hv
         ·cases hv
         ·rename_i h;simpa [Addr.add] using h
        ·cases hv
       subst hsp
       have hbs:b<w.heap.size:=by
        unfold World.cell? at hv
        split at hv
        ·rename_i hh;exact (afz.1 hh).1
        ·cases hv
       refine⟨b,o,rfl,hbs,hM b hb hbs,fun j hj =>?_⟩
       obtain⟨_,v,hv,_⟩:=hat j _ (afI hj)
       have ha:Addr.add ⟨b,o,none⟩ j=⟨b,o+j,none⟩:=by
        unfold Addr.add
        split
        ·rename_i h0;rw[h0];rfl
        ·rfl
       have hv':w.cell? ⟨b,o+j,none⟩=some v:=by rw[<- ha];exact hv
       rw[hv']
       simp only[hv,Option.getD_some]
      ·obtain⟨_,v,hv,hr⟩:=hat j z hj
       rw[hv]
       exact hr
      ·obtain⟨j,hj⟩:=List.mem_iff_getElem?.1 hz
       exact (hat j z hj).1
    ·cases hpos
def AZ (T:Nat->Option Ty) (n t:Nat) (d:D):Prop :=
 match T t with
 | some τ=>if τ.ds.nd then ∃xs,d=.agg xs∧E5 T n t xs else E5 T n t [d]
 | none=>False
theorem lf.agg {w:World} {M:Nat->Prop} {xs:List D} {cs:Array Value} (h:lf w M xs cs.toList):RP w M (.agg xs) (.agg cs):=by
 have:=RP.agg (w:=w) (M:=M) xs cs.toList h.1.symm (fun j x hj=>by
  obtain⟨_,v,h1,h2⟩:=h.2 j x hj
  simp only[List.getD,h1,Option.getD_some]
  exact h2) (fun x hx=>by
  obtain⟨j,hj⟩:=List.mem_iff_getElem?.1 hx
  exact (h.2 j x hj).1)
 simpa using this
theorem lf.single {w:World} {M:Nat->Prop} {xs:List D} {v:Value} (h:lf w M xs [v]):∃x,xs=[x]∧RP w M x v:=by
 match xs,h with
 | [],h=>have:=h.1;simp at this
 | [x],h=>obtain⟨_,u,h1,h2⟩:=h.2 0 x rfl;simp only[List.getElem?_cons_zero,afE]at h1;subst h1;exact⟨x,rfl,h2⟩
 | x::y::xs,h=>have:=h.1;simp at this
theorem Z9 (hT:gm P T) {M:Nat->Prop} (hM:∀b,base<=b->b<w.heap.size->¬M b) {n t b0:Nat} {v:Value} {d:DataW H} {ps:List MemPlace} (hok:VB T n t=true) (hv:Value.okWide P w .any b0 t v) (h:DataW.Trod enc P w base spare held t v d ps) (hw:Reach P t d) :
  ∃x,AZ T n t x∧RP w M x v:=by
 obtain⟨fuel,h⟩:=h
 obtain⟨xs,h1,h2⟩:=abU hT hM n t fuel _ _ hok h hw
 unfold AZ
 cases n with
 | zero=>cases hok
 | succ n =>
 cases hτ:T t with
 | none=>simp only[VB,hτ]at hok;cases hok
 | some τ =>
  simp only
  obtain⟨d',hd,hc⟩:=under hT hτ
  cases hds:τ.ds with
  | int k =>
   rw[hds]at hc
   have hd':=xa hc
   subst hd'
   obtain⟨i,rfl⟩:=okWide_int hd hv
   obtain⟨x,rfl,hx⟩:=lf.single (v := .int k i) h2
   exact⟨x,by simpa [Ds.nd] using h1,hx⟩
  | bool =>
   rw[hds]at hc
   have hd':=uc hc
   subst hd'
   obtain⟨i,rfl⟩:=okWide_bool hd hv
   obtain⟨x,rfl,hx⟩:=lf.single (v := .bool i) h2
   exact⟨x,by simpa [Ds.nd] using h1,hx⟩
  | str =>
   rw[hds]at hc
   have hd':=pI hc
   subst hd'
   obtain⟨i,rfl⟩:=okWide_string hd hv
   obtain⟨x,rfl,hx⟩:=lf.single (v := .string i) h2
   exact⟨x,by simpa [Ds.nd] using h1,hx⟩
  | slice e =>
   rw[hds]at hc
   have hd':=eY hc
   subst hd'
   obtain⟨a,len,cap,rfl⟩:=okWide_slice hd hv
   obtain⟨x,rfl,hx⟩:=lf.single (v := .slice a len cap) h2
   exact⟨x,by simpa [Ds.nd] using h1,hx⟩
  | struct fs =>
   rw[hds]at hc
   obtain⟨F,rfl,_⟩:=fU hc
   obtain⟨cs,rfl,_⟩:=okWide_struct hd hv
   exact⟨.agg xs,by simpa [Ds.nd] using h1,lf.agg h2⟩
  | arr m e =>
   rw[hds]at hc
   have hd':=w9 hc
   subst hd'
   have:∃cs,v=.agg cs:=by
    unfold Value.okWide at hv
    rw[hd]at hv
    obtain⟨cs,h,_⟩:=hv
    exact⟨cs,h⟩
   obtain⟨cs,rfl⟩:=this
   exact⟨.agg xs,by simpa [Ds.nd] using h1,lf.agg h2⟩
  | map _ _=>simp only[VB,hτ,hds]at hok;cases hok
  | other=>simp only[VB,hτ,hds]at hok;cases hok
theorem F9 (hT:gm P T) {M:Nat->Prop} (hM:∀b,base<=b->b<w.heap.size->¬M b) {n b0:Nat} : ∀(ts:List TypeId) (vs:List Value) (ds:List (DataW H)) (ps:List MemPlace),DataW.TrodAll enc P w base spare held ts vs ds ps ->
  (∀(j:Nat) t v,ts[j]? = some t->vs[j]? = some v->Value.okWide P w .any b0 t v)->(∀t∈ts,VB T n t=true)->(∀k∈DataW.weightsEach P ts ds,k<=140737488351232) ->
  ∃ar:List D,ar.length=vs.length∧(∀(j:Nat) x,ar[j]? = some x->∃v,vs[j]? = some v∧RP w M x v)∧ar.length=ts.length∧∀(j:Nat) t,ts[j]? = some t->∃x,ar[j]? = some x∧AZ T n t x
 | [],[],[],ps,_,_,_,_=>⟨[],rfl,fun j x hj=>by simp at hj,rfl,fun j t hj=>by simp at hj⟩
 | t::ts,v::vs,d::ds,ps,h,hv,hok,hw=>by
  obtain⟨p,q,h1,h2,_⟩:=h
  obtain⟨x,hx1,hx2⟩:=Z9 hT hM (hok t (by simp)) (hv 0 t v rfl rfl) h1 (fun k hk=>hw k (by simp only[DataW.weightsEach,agL];exact .inl hk))
  obtain⟨ar,g1,g2,g3,g4⟩:=F9 hT hM ts vs ds q h2 (fun j t' v' a b=>hv (j+1) t' v' (by simpa using a) (by simpa using b)) (fun t' ht=>hok t' (ag3 _ ht)) (fun k hk=>hw k (by simp only[DataW.weightsEach,agL];exact .inr hk))
  refine⟨x::ar,by simp[g1],fun j y hj =>?_,by simp[g3],fun j t' hj =>?_⟩
  ·cases j with
   | zero=>simp only[List.getElem?_cons_zero,afE]at hj;subst hj;exact⟨v,rfl,hx2⟩
   | succ j=>simpa using g2 j y (by simpa using hj)
  ·cases j with
   | zero=>simp only[List.getElem?_cons_zero,afE]at hj;subst hj;exact⟨x,rfl,hx1⟩
   | succ j=>simpa using g4 j t' (by simpa using hj)
 | [],[],_::_,_,h,_,_,_=>h.elim
 | [],_::_,_,_,h,_,_,_=>h.elim
 | _::_,[],_,_,h,_,_,_=>h.elim
 | _::_,_::_,[],_,h,_,_,_=>h.elim
end
end Go.Proofs.YtmcncjgbkobjnaaGreat.Am
namespace Go.Proofs.YtmcncjgbkobjnaaGreat.Am
open Go.RowKit Go.Deep Go.ChangeShapes Go.WideShapes Go.ChangeAt
section
variable {H:Type} {enc:TypeId×Value->H} {P:Program}
theorem FF {f:Func} {s:ChangeSpec} {apart fresh handsOn again:Bool} {W W':World} {args:Array Value} {v:Value} {ds gs:List (DataW H)} {before pa pv:List MemPlace}
  (hW:DataW.Whole enc P f.params.toList s.vars apart W args.toList ds gs before)
  (hres:∀(b:Nat) (sp:Nat->Bool) (hd:Bool),DataW.TrodAll enc P W' b sp hd f.resultTypes.toList (v.resultList f.resultTypes.size) (s.fn H (ds++gs)).results [])
  (hargs:∀sp:Nat->Bool,(∀p∈before,sp p.block=true)->DataW.TrodAll enc P W' 0 sp true f.params.toList args.toList (s.fn H (ds++gs)).args pa)
  (hvars:∀sp:Nat->Bool,(∀p∈before,sp p.block=true)->DataW.TrodVars enc P W' sp s.vars (s.fn H (ds++gs)).vars pv)
  (hps:before=pa++pv) (hb:Below W.heap.size W W')
  (hok:∀(j:Nat) (t:TypeId) (r:Value),f.resultTypes[j]? = some t->(v.resultList f.resultTypes.size)[j]? = some r->Value.okWide P W' .any 0 t r) :
  s.post enc P f apart fresh handsOn again W args v W':=by
 have hlt:∀p∈before,p.block<W.heap.size:=fun p hp=>hW.lt p hp
 have hold:∀p∈before,(fun b=>decide (b<W.heap.size)) p.block=true:=fun p hp=>by simpa using hlt p hp
 refine⟨ds,gs,before,[],pa,pv,hW,hres _ _ _,hargs _ hold,hvars _ hold,World.keptBut_mono (fun p hp=>⟨hp,?_⟩) (hb.frame (·∈before)),fun _ =>?_⟩
 ·rw[hps,agL]at hp
  exact Or.inr hp
 ·obtain⟨_,_,_,_,_,hz,hn⟩:=hW
  refine⟨hok,_,_,([]++pa)++pv,⟨[]++pa,pv,trodAll_append (hargs _ (fun _ _=>rfl)) (hres _ _ _),hvars _ (fun _ _=>rfl),rfl,?_,?_⟩,?_⟩
  ·intro b off hp
   have hin:MemPlace.cell b off∈before:=by rw[hps];simpa using hp
   rw[hb.frozen (hlt _ hin)]
   exact hz b off hin
  ·intro ha
   have:=hn ha
   rw[hps]at this
   simpa using this
  ·intro p hp _
   rw[hps]
   simpa using hp
theorem vY (hl:laidOutB P=true) {W W':World} {sp':Nat->Bool} : ∀ {ts:List TypeId} {vs:List Value} {ds:List (DataW H)} {ps:List MemPlace},(∀t∈ts,P.readableRec t=true∧t<P.types.size)->DataW.TrodAll enc P W 0 (fun _=>true) true ts vs ds ps ->
  (∀p∈ps,W.sameAt W' p)->(∀p∈ps,sp' p.block=true)->DataW.TrodAll enc P W' 0 sp' true ts vs ds ps
 | [],[],[],_,_,h,_,_=>h
 | t::ts,v::vs,d::ds,_,hr,⟨p,q,h1,h2,e⟩,hs,hp=>by
  subst e
  have ht:=hr t (by simp)
  exact⟨p,q,WideElems.Trod_stays hl ht.1 ht.2 h1 (fun x hx=>hs x (afJ _ hx)) (fun x hx=>hp x (afJ _ hx)),
   vY hl (fun t ht=>hr t (ag3 _ ht)) h2 (fun x hx=>hs x (afK _ hx)) (fun x hx=>hp x (afK _ hx)),rfl⟩
end
theorem YA {H:Type} {enc:TypeId×Value->H} {C:Checked} {T:Nat->Option Ty} {f:FuncId} {fn:Func} {s:ChangeSpec} {apart fresh handsOn again:Bool} {tb n:Nat} (hT:gm C.prog T)
  (hl:laidOutB C.prog=true) (hr:(fn.params.toList.all fun t=>C.prog.readableRec t&&decide (t<C.prog.types.size)&&VB T n t)=true)
  (hres:fn.resultTypes = #[tb]) (htb:C.prog.underlying tb=some .bool) (hv:s.vars=[])
  (hs:∀ds:List (DataW H),ds.length=fn.params.toList.length->(s.fn H ds).results=[.lit (.bool true)]∧(s.fn H ds).args=ds∧(s.fn H ds).vars=[])
  (law:∀ar:List D,ar.length=fn.params.toList.length->(∀(j:Nat) t,fn.params.toList[j]? = some t->∃x,ar[j]? = some x∧AZ T n t x)->Py C.prog f ar (.bool true))
  {W:World} {base:Nat} {args:Array Value} {ds gs:List (DataW H)} {before:List MemPlace}
  (hval:∀(j:Nat) t v,fn.params[j]? = some t->args[j]? = some v->Value.okWide C.prog W .any base t v) (hW:DataW.Whole enc C.prog fn.params.toList s.vars apart W args.toList ds gs before)
  (hsz:(DataW.weightsEach C.prog (fn.params.toList++s.plain.varTypes C.prog) (ds++gs)).all (·<=reachBytes)=true) (hTab:Uv W (fun _=>False)) :
  Calls C.prog f args W fun e W'=>∃v,e=.returned v∧s.post enc C.prog fn apart fresh handsOn again W args v W':=by
 have hW':=hW
 obtain⟨p,q,hA,hV,rfl,hfz,hnd⟩:=hW
 rw[hv]at hV
 obtain⟨rfl,rfl⟩:=trodVars_none hV
 simp only[afG,af6,decide_eq_true_eq]at hr
 obtain⟨ar,h1,h2,h3,h4⟩:=F9 (P:=C.prog) hT (M:=fun _=>False) (fun b _ _ h=>h) (n:=n) (b0:=base) fn.params.toList args.toList ds p hA
  (fun j t v a b=>hval j t v (by simpa using a) (by simpa using b)) (fun t ht=>(hr t ht).2) (fun k hk=>by
   rw[afG]at hsz
   have hv0:s.plain.varTypes C.prog=[]:=by unfold ChangeSpec.plain;simp only[hv];rfl
   rw[hv0,ahm,ahm]at hsz
   have h:=hsz k hk
   rw[decide_eq_true_eq]at h
   exact h)
 refine (law ar h3 h4 W (fun _=>False) args (fun b h=>h.elim) ⟨by simpa using h1.symm,fun j x hj =>?_,hTab⟩).mono fun e W' hG =>?_
 ·obtain⟨v,g1,g2⟩:=h2 j x hj
  have g1':args[j]? = some v:=by simpa using g1
  rw[afA,g1']
  exact g2
 ·obtain⟨v,rfl,hb,hv1⟩:=hG
  have hv2:RP W' (fun _=>False) (.bool true) v:=hv1
  cases hv2
  have hlen:ds.length=fn.params.toList.length:=by
   have:∀ {ts:List TypeId} {vs:List Value} {ds:List (DataW H)} {ps:List MemPlace},DataW.TrodAll enc C.prog W 0 (fun _=>true) true ts vs ds ps->ds.length=ts.length:=by
    intro ts
    induction ts with
    | nil=>intro vs ds ps h;cases vs<;>cases ds<;>first|rfl|exact h.elim
    | cons t ts ih =>
     intro vs ds ps h
     cases vs with
     | nil=>exact h.elim
     | cons v vs=>cases ds with
      | nil=>exact h.elim
      | cons d ds=>obtain⟨_,_,_,h2,_⟩:=h;simp[ih h2]
   exact this hA
  obtain⟨e1,e2,e3⟩:=hs ds hlen
  refine⟨_,rfl,FF (pa:=p) (pv:=[]) hW' ?_ ?_ ?_ (by simp) hb ?_⟩
  ·intro b sp hd
   rw[ahm,e1,hres]
   exact trodAll_mk1 ⟨1,by simp[DataW.trod,htb,Value.cells]⟩
  ·intro sp hsp
   rw[ahm,e2]
   refine vY hl (fun t ht=>(hr t ht).1) hA (fun x hx=>hb.same (hW'.lt x (by simpa using hx))) (fun x hx=>hsp x (by simpa using hx))
  ·intro sp _
   rw[ahm,e3,hv]
   rfl
  ·exact ok_one hres rfl (by simp[Value.okWide,htb,Cell.okWide,Cell.ok])
theorem Q9 {H:Type} {enc:TypeId×Value->H} {C:Checked} {os:Os} {T:Nat->Option Ty} {f:FuncId} {fn:Func} {s:ChangeSpec} {conds:List PathCond} {apart fresh handsOn again:Bool} {tb n:Nat}
  (hT:gm C.prog T) (own:ownKnob C.prog.godebug=none) (started:os.Started) (noInit:C.prog.inits.idxOf? f=none) (hfn:C.prog.funcs[f]? = some fn)
  (witness:∃(w:World) (tape:Tape) (i:Input),w.os=os∧(w.forCall tape i).Shaped C.prog∧i.vars=[]∧Input.okWide C.prog (w.forCall tape i) .any w.heap.size f i ∧
   s.pre6 enc C.prog fn conds apart (w.forCall tape i).memory i.args∧({} : Assume).holds C.prog (lone (Frame.enter C.prog f i.args .normal) [] (w.forCall tape i)))
  (hl:laidOutB C.prog=true) (hr:(fn.params.toList.all fun t=>C.prog.readableRec t&&decide (t<C.prog.types.size)&&VB T n t)=true)
  (hres:fn.resultTypes = #[tb]) (htb:C.prog.underlying tb=some .bool) (hv:s.vars=[])
  (hs:∀ds:List (DataW H),ds.length=fn.params.toList.length->(s.fn H ds).results=[.lit (.bool true)]∧(s.fn H ds).args=ds∧(s.fn H ds).vars=[])
  (law:∀ar:List D,ar.length=fn.params.toList.length->(∀(j:Nat) t,fn.params.toList[j]? = some t->∃x,ar[j]? = some x∧AZ T n t x)->Py C.prog f ar (.bool true)) (hno:YX=none:=by rfl) :
  ReturnsInHanded {} C os f .any (s.pre6 enc C.prog fn conds apart) (s.post enc C.prog fn apart fresh handsOn again):=by
 apply returnsInHanded_of_change_sized own started noInit hfn witness
 intro W base args ds gs before hval hW _ hsz _
 exact YA hT hl hr hres htb hv hs law hval hW hsz (fun b hb=>by rw[hno]at hb;cases hb)
end Go.Proofs.YtmcncjgbkobjnaaGreat.Am
namespace Go.Proofs.YtmcncjgbkobjnaaGreat.Am
open Go.RowKit
theorem ac8 {T:Nat->Option Ty} {n t:Nat} {ar:List D} (h:ar.length=[t].length) (hs:∀(j:Nat) u,[t][j]? = some u->∃x,ar[j]? = some x∧AZ T n u x):∃a,ar=[a]∧AZ T n t a:=by
 match ar,h with
 | [a],_=>obtain⟨x,h1,h2⟩:=hs 0 t rfl;cases h1;exact⟨a,rfl,h2⟩
section
variable {T:Nat->Option Ty} {n t:Nat} {τ:Ty} {d:D}
theorem PI {fs:List (Nat×Nat)} (h:AZ T n t d) (hτ:T t=some τ) (hd:τ.ds=.struct fs):∃xs,d=.agg xs∧E5 T n t xs:=by
 simp only[AZ,hτ,hd,Ds.nd,if_true]at h
 exact h
theorem aaM {k:IntKind} {xs:List D} (h:E5 T (n+1) t xs) (hτ:T t=some τ) (hd:τ.ds=.int k):∃i,xs=[.int k i]∧(Lit.int k i).wf=true:=by
 simp only[E5,hτ,hd]at h
 exact h.2
theorem VV {e:Nat} {φ:Ty} {xs:List D} (h:E5 T (n+1) t xs) (hτ:T t=some τ) (hd:τ.ds=.slice e) (hφ:T e=some φ) :
  ∃len ys,xs=[.sl false false len ys]∧len*φ.bytes<=140737488351232∧ys.length=len*φ.size∧∀i,i<len->E5 T n e ((ys.drop (i*φ.size)).take φ.size):=by
 simp only[E5,hτ,hd]at h
 obtain⟨_,len,ys,ψ,h1,h3,h4,h5,h6⟩:=h
 rw[hφ]at h4
 cases h4
 exact⟨len,ys,h1,h3,h5,h6⟩
theorem Rw {fs:List (Nat×Nat)} {xs:List D} (h:E5 T (n+1) t xs) (hτ:T t=some τ) (hd:τ.ds=.struct fs):xs.length=τ.size∧∀f∈fs,∃φ,T f.1=some φ∧E5 T n f.1 ((xs.drop f.2).take φ.size):=by
 simp only[E5,hτ,hd]at h
 exact h
end
end Go.Proofs.YtmcncjgbkobjnaaGreat.Am
namespace Go.Proofs.YtmcncjgbkobjnaaGreat.Am
open Go.RowKit Go.Proofs.YtmcncjgbkobjnaaGreat.P
def RS {α:Type} (T:Nat->Option Ty) (n t:Nat) (E:gY α) (ok:α->Prop):Prop:=(∃φ,T t=some φ∧φ.size=E.size)∧∀xs,E5 T n t xs->∃x,xs=E.cells x∧ok x
section
variable {T:Nat->Option Ty} {n t:Nat} {τ:Ty}
theorem opI {k:IntKind} (hτ:T t=some τ) (hd:τ.ds=.int k) (hs:τ.size=1):RS T (n+1) t (eI k) (fun i=>(Lit.int k i).wf=true):=⟨⟨τ,hτ,hs⟩,fun _ h=>aaM h hτ hd⟩
theorem abA {α:Type} (E:gY α) (ok:α->Prop):∀(len:Nat) (ys:List D),ys.length=len*E.size->(∀i,i<len->∃x,(ys.drop (i*E.size)).take E.size=E.cells x∧ok x)->∃l:List α,l.length=len∧ys=ab E l∧∀x∈l,ok x
 | 0,ys,hl,_=>⟨[],rfl,by simpa [ab] using hl,fun x hx=>by simp at hx⟩
 | len+1,ys,hl,h=>by
  obtain⟨x,hx,hok⟩:=h 0 (by omega)
  obtain⟨l,h1,h2,h3⟩:=abA E ok len (ys.drop E.size) (by rw[afP,hl,ags];omega) (fun i hi=>by
   obtain⟨y,hy,hy2⟩:=h (i+1) (by omega)
   refine⟨y,?_,hy2⟩
   rw[ahj]
   rw[ags,Nat.add_comm]at hy
   exact hy)
  rw[Nat.zero_mul,agX]at hx
  refine⟨x::l,by simp[h1],?_,fun y hy =>?_⟩
  ·rw[bn,<- h2,<- hx,ahk]
  ·rcases afC.1 hy with rfl|hy
   ·exact hok
   ·exact h3 y hy
theorem ads {α:Type} {E:gY α} {ok:α->Prop} {e:Nat} (hτ:T t=some τ) (hd:τ.ds=.slice e) (hs:τ.size=1) {B:Nat} (hB:(T e).map (·.bytes)=some B) (he:RS T n e E ok):RS T (n+1) t (kV E) (fun l=>l.length*B<=140737488351232∧∀x∈l,ok x):=by
 obtain⟨⟨φ,hφ,hz⟩,hx⟩:=he
 have hb:φ.bytes=B:=by rw[hφ]at hB;simpa using hB
 refine⟨⟨τ,hτ,hs⟩,fun xs h =>?_⟩
 obtain⟨len,ys,h1,h2,h3,h4⟩:=VV h hτ hd hφ
 rw[hz]at h3 h4
 rw[hb]at h2
 obtain⟨l,k1,k2,k3⟩:=abA E ok len ys h3 fun i hi=>hx _ (h4 i hi)
 subst k1 k2
 exact⟨l,h1,h2,k3⟩
def OpF {α:Type} (T:Nat->Option Ty) (n:Nat) (fs:List (Nat×Nat)) (o:Nat) (E:gY α) (ok:α->Prop):Prop :=
 ∀xs:List D,xs.length=o+E.size->(∀f∈fs,∃φ,T f.1=some φ∧E5 T n f.1 ((xs.drop f.2).take φ.size))->∃x,xs.drop o=E.cells x∧ok x
theorem aaA {α:Type} {E:gY α} {ok:α->Prop} {ft o:Nat} (h:RS T n ft E ok):OpF T n [(ft,o)] o E ok:=by
 obtain⟨⟨φ,hφ,hz⟩,hx⟩:=h
 intro xs hl hf
 obtain⟨ψ,h1,h2⟩:=hf (ft,o) (by simp)
 cases hφ.symm.trans h1
 rw[agW (by rw[afP];omega)]at h2
 exact hx _ h2
theorem Yq {α β:Type} {E:gY α} {ok:α->Prop} {E':gY β} {ok':β->Prop} {ft o o':Nat} {fs:List (Nat×Nat)} (h:RS T n ft E ok) (ho:o'=o+E.size) (h':OpF T n fs o' E' ok'):OpF T n ((ft,o)::fs) o (jv E E') (fun x=>ok x.1∧ok' x.2):=by
 subst ho
 obtain⟨⟨φ,hφ,hz⟩,hx⟩:=h
 intro xs hl hf
 obtain⟨ψ,h1,h2⟩:=hf (ft,o) (by simp)
 cases hφ.symm.trans h1
 obtain⟨x,hx1,hx2⟩:=hx _ h2
 obtain⟨y,hy1,hy2⟩:=h' xs (by rw[hl];show o+(E.size+E'.size)=_;omega) fun f hf'=>hf f (ag3 _ hf')
 refine⟨(x,y),?_,hx2,hy2⟩
 show xs.drop o=E.cells x++E'.cells y
 rw[<- hx1,<- hy1,<- hz,<- ahj,ahk]
theorem opS {α β:Type} {E:gY β} {ok:β->Prop} {f:α->β} {hf:∀x y,f x=f y->x=y} {g:β->α} {fs:List (Nat×Nat)} (hτ:T t=some τ) (hd:τ.ds=.struct fs) (hs:τ.size=E.size) (hg:∀y,f (g y)=y) (h:OpF T n fs 0 E ok):RS T (n+1) t (wo E f hf) (fun x=>ok (f x)):=by
 refine⟨⟨τ,hτ,hs⟩,fun xs hx =>?_⟩
 obtain⟨h1,h2⟩:=Rw hx hτ hd
 obtain⟨y,h3,h4⟩:=h xs (by rw[h1,hs,agj]) h2
 refine⟨g y,?_,?_⟩
 ·show xs=E.cells (f (g y))
  rw[hg,<- h3,agX]
 ·show ok (f (g y))
  rw[hg];exact h4
def OpA {α:Type} (T:Nat->Option Ty) (n t:Nat) (A:Arg α) (ok:α->Prop):Prop:=∀d,AZ T n t d->∃x,d=A.d x∧ok x
theorem oaS {α:Type} {E:gY α} {ok:α->Prop} {fs:List (Nat×Nat)} (hτ:T t=some τ) (hd:τ.ds=.struct fs) (hE:RS T n t E ok):OpA T n t (bL E) ok:=fun d h=>by
 obtain⟨xs,rfl,h1⟩:=PI h hτ hd
 obtain⟨x,h1,h2⟩:=hE.2 _ h1
 exact⟨x,by rw[h1];rfl,h2⟩
def abP {α:Type} (T:Nat->Option Ty) (n:Nat) (ts:List Nat) (A:jM α) (ok:α->Prop):Prop:=∀ar:List D,ar.length=ts.length->(∀(j:Nat) u,ts[j]? = some u->∃x,ar[j]? = some x∧AZ T n u x)->∃x,ar=A.ds x∧ok x
theorem aeQ {α:Type} {A:Arg α} {ok:α->Prop} (h:OpA T n t A ok):abP T n [t] (eQ A) ok:=fun ar hl hs=>by
 obtain⟨a,rfl,ha⟩:=ac8 hl hs
 obtain⟨x,rfl,hx⟩:=h a ha
 exact⟨x,rfl,hx⟩
theorem ab7 {P:Program} {f:FuncId} {α:Type} {A:jM α} {F:α->Option Bool} {ok:α->Prop} {ts:List Nat} (ho:abP T n ts A ok) (hG:bP P f (fc A F (fun r =>.clean (.bool r)))) (h:∀x,ok x->F x=some true) (ar:List D) (hl:ar.length=ts.length)
  (hs:∀(j:Nat) u,ts[j]? = some u->∃x,ar[j]? = some x∧AZ T n u x):Py P f ar (.bool true):=by
 obtain⟨x,rfl,hx⟩:=ho ar hl hs
 refine hG.calls none _ _ none ?_
 rw[aJ,h x hx]
 rfl
end
end Go.Proofs.YtmcncjgbkobjnaaGreat.Am
namespace Go.Proofs.YtmcncjgbkobjnaaGreat.P
open Go.RowKit
def Ul (l:List Int):Option (List Int):=some l
def Kl (l:List Int):Option (List Int):=if l.length*8<=140737488351232 then some (AP l) else none
end Go.Proofs.YtmcncjgbkobjnaaGreat.P
namespace Go.Proofs
open Go.Shelf
def Tryz.M6:Go.Shelf.Ren:=⟨fun|189=>207|125=>137|257=>222|128=>188|129=>189|294=>225|295=>226|296=>227|297=>228|298=>229|299=>230|216=>231|300=>232|301=>233|328=>235|329=>211|330=>212|331=>236|332=>237|215=>190|343=>238|n=>n,fun|28=>22|3=>3|46=>171|0=>0|51=>207|53=>185|4=>4|183=>201|182=>200|131=>188|5=>5|9=>9|218=>216|222=>220|228=>230|229=>231|n=>n,fun|n=>n⟩
theorem Tryz.S4:Go.Proofs.Lays.n189 Tryz.prog Tryz.M6:={
 mixed:=by kernel_rfl
 f125:=Tryz.func137.trans (congrArg some (by kernel_rfl))
 f128:=Tryz.func188.trans (congrArg some (by kernel_rfl))
 f129:=Tryz.func189.trans (congrArg some (by kernel_rfl))
 f189:=Tryz.func207.trans (congrArg some (by kernel_rfl))
 f215:=Tryz.func190.trans (congrArg some (by kernel_rfl))
 f216:=Tryz.func231.trans (congrArg some (by kernel_rfl))
 f257:=Tryz.func222.trans (congrArg some (by kernel_rfl))
 f294:=Tryz.func225.trans (congrArg some (by kernel_rfl))
 f295:=Tryz.func226.trans (congrArg some (by kernel_rfl))
 f296:=Tryz.func227.trans (congrArg some (by kernel_rfl))
 f297:=Tryz.func228.trans (congrArg some (by kernel_rfl))
 f298:=Tryz.func229.trans (congrArg some (by kernel_rfl))
 f299:=Tryz.func230.trans (congrArg some (by kernel_rfl))
 f300:=Tryz.func232.trans (congrArg some (by kernel_rfl))
 f301:=Tryz.func233.trans (congrArg some (by kernel_rfl))
 f328:=Tryz.func235.trans (congrArg some (by kernel_rfl))
 f329:=Tryz.func211.trans (congrArg some (by kernel_rfl))
 f330:=Tryz.func212.trans (congrArg some (by kernel_rfl))
 f331:=Tryz.func236.trans (congrArg some (by kernel_rfl))
 f332:=Tryz.func237.trans (congrArg some (by kernel_rfl))
 f343:=Tryz.func238.trans (congrArg some (by kernel_rfl))
 t0:=Tryz.underlying0
 a0:=Tryz.isAgg0
 z0:=Tryz.sizeOf0
 v0:=Tryz.zeroValue0
 t3:=Tryz.underlying3
 a3:=Tryz.isAgg3
 z3:=Tryz.sizeOf3
 v3:=Tryz.zeroValue3
 t4:=Tryz.underlying4
 a4:=Tryz.isAgg4
 z4:=Tryz.sizeOf4
 v4:=Tryz.zeroValue4
 t5:=Tryz.underlying5
 a5:=Tryz.isAgg5
 z5:=Tryz.sizeOf5
 v5:=Tryz.zeroValue5
 t9:=Tryz.underlying9
 a9:=Tryz.isAgg9
 z9:=Tryz.sizeOf9
 v9:=Tryz.zeroValue9
 t28:=Tryz.underlying22
 a28:=Tryz.isAgg22
 z28:=Tryz.sizeOf22
 v28:=Tryz.zeroValue22
 t46:=Tryz.underlying171
 a46:=Tryz.isAgg171
 z46:=Tryz.sizeOf171
 v46:=Tryz.zeroValue171
 t51:=Tryz.underlying207
 a51:=Tryz.isAgg207
 z51:=Tryz.sizeOf207
 v51:=Tryz.zeroValue207
 t53:=Tryz.underlying185
 a53:=Tryz.isAgg185
 z53:=Tryz.sizeOf185
 v53:=Tryz.zeroValue185
 t131:=Tryz.underlying188
 a131:=Tryz.isAgg188
 z131:=Tryz.sizeOf188
 v131:=Tryz.zeroValue188
 t182:=Tryz.underlying200
 a182:=Tryz.isAgg200
 z182:=Tryz.sizeOf200
 v182:=Tryz.zeroValue200
 t183:=Tryz.underlying201
 a183:=Tryz.isAgg201
 z183:=Tryz.sizeOf201
 v183:=Tryz.zeroValue201
 t218:=Tryz.underlying216
 a218:=Tryz.isAgg216
 z218:=Tryz.sizeOf216
 v218:=Tryz.zeroValue216
 t222:=Tryz.underlying220
 a222:=Tryz.isAgg220
 z222:=Tryz.sizeOf220
 v222:=Tryz.zeroValue220
 t228:=Tryz.underlying230
 a228:=Tryz.isAgg230
 z228:=Tryz.sizeOf230
 v228:=Tryz.zeroValue230
 t229:=Tryz.underlying231
 a229:=Tryz.isAgg231
 z229:=Tryz.sizeOf231
 v229:=Tryz.zeroValue231 }
def Tryz.Re:Go.Shelf.Ren:=⟨fun|6=>78|15=>137|14=>136|28=>188|29=>189|20=>180|21=>181|22=>182|23=>183|24=>184|25=>185|26=>186|27=>187|46=>210|47=>211|48=>212|49=>213|50=>214|57=>223|n=>n,fun|22=>26|24=>63|25=>119|3=>3|39=>171|0=>0|53=>207|55=>185|4=>4|46=>201|45=>200|50=>188|5=>5|9=>9|66=>216|70=>220|76=>230|77=>231|n=>n,fun|n=>n⟩
theorem Tryz.YM:Go.Proofs.SlLaysF0.n6 Tryz.prog Tryz.Re:={
 mixed:=by kernel_rfl
 f6:=⟨Tryz.f78.name,by decide,Tryz.func78.trans (congrArg some (by kernel_rfl))⟩
 f14:=⟨Tryz.f136.name,by decide,Tryz.func136.trans (congrArg some (by kernel_rfl))⟩
 f15:=Tryz.func137.trans (congrArg some (by kernel_rfl))
 f20:=⟨Tryz.f180.name,by decide,Tryz.func180.trans (congrArg some (by kernel_rfl))⟩
 f21:=⟨Tryz.f181.name,by decide,Tryz.func181.trans (congrArg some (by kernel_rfl))⟩
 f22:=⟨Tryz.f182.name,by decide,Tryz.func182.trans (congrArg some (by kernel_rfl))⟩
 f23:=⟨Tryz.f183.name,by decide,Tryz.func183.trans (congrArg some (by kernel_rfl))⟩
 f24:=⟨Tryz.f184.name,by decide,Tryz.func184.trans (congrArg some (by kernel_rfl))⟩
 f25:=⟨Tryz.f185.name,by decide,Tryz.func185.trans (congrArg some (by kernel_rfl))⟩
 f26:=⟨Tryz.f186.name,by decide,Tryz.func186.trans (congrArg some (by kernel_rfl))⟩
 f27:=⟨Tryz.f187.name,by decide,Tryz.func187.trans (congrArg some (by kernel_rfl))⟩
 f28:=Tryz.func188.trans (congrArg some (by kernel_rfl))
 f29:=Tryz.func189.trans (congrArg some (by kernel_rfl))
 f46:=⟨Tryz.f210.name,by decide,Tryz.func210.trans (congrArg some (by kernel_rfl))⟩
 f47:=Tryz.func211.trans (congrArg some (by kernel_rfl))
 f48:=Tryz.func212.trans (congrArg some (by kernel_rfl))
 f49:=⟨Tryz.f213.name,by decide,Tryz.func213.trans (congrArg some (by kernel_rfl))⟩
 f50:=⟨Tryz.f214.name,by decide,Tryz.func214.trans (congrArg some (by kernel_rfl))⟩
 f57:=⟨Tryz.f223.name,by decide,Tryz.func223.trans (congrArg some (by kernel_rfl))⟩
 t0:=Tryz.underlying0
 a0:=Tryz.isAgg0
 z0:=Tryz.sizeOf0
 v0:=Tryz.zeroValue0
 t3:=Tryz.underlying3
 a3:=Tryz.isAgg3
 z3:=Tryz.sizeOf3
 v3:=Tryz.zeroValue3
 t4:=Tryz.underlying4
 a4:=Tryz.isAgg4
 z4:=Tryz.sizeOf4
 v4:=Tryz.zeroValue4
 t5:=Tryz.underlying5
 a5:=Tryz.isAgg5
 z5:=Tryz.sizeOf5
 v5:=Tryz.zeroValue5
 t9:=Tryz.underlying9
 a9:=Tryz.isAgg9
 z9:=Tryz.sizeOf9
 v9:=Tryz.zeroValue9
 t22:=Tryz.underlying26
 a22:=Tryz.isAgg26
 z22:=Tryz.sizeOf26
 v22:=Tryz.zeroValue26
 t25:=Tryz.underlying119
 a25:=Tryz.isAgg119
 z25:=Tryz.sizeOf119
 v25:=Tryz.zeroValue119
 t39:=Tryz.underlying171
 a39:=Tryz.isAgg171
 z39:=Tryz.sizeOf171
 v39:=Tryz.zeroValue171
 t45:=Tryz.underlying200
 a45:=Tryz.isAgg200
 z45:=Tryz.sizeOf200
 v45:=Tryz.zeroValue200
 t46:=Tryz.underlying201
 a46:=Tryz.isAgg201
 z46:=Tryz.sizeOf201
 v46:=Tryz.zeroValue201
 t50:=Tryz.underlying188
 a50:=Tryz.isAgg188
 z50:=Tryz.sizeOf188
 v50:=Tryz.zeroValue188
 t53:=Tryz.underlying207
 a53:=Tryz.isAgg207
 z53:=Tryz.sizeOf207
 v53:=Tryz.zeroValue207
 t55:=Tryz.underlying185
 a55:=Tryz.isAgg185
 z55:=Tryz.sizeOf185
 v55:=Tryz.zeroValue185
 t66:=Tryz.underlying216
 a66:=Tryz.isAgg216
 z66:=Tryz.sizeOf216
 v66:=Tryz.zeroValue216
 t70:=Tryz.underlying220
 a70:=Tryz.isAgg220
 z70:=Tryz.sizeOf220
 v70:=Tryz.zeroValue220
 t76:=Tryz.underlying230
 a76:=Tryz.isAgg230
 z76:=Tryz.sizeOf230
 v76:=Tryz.zeroValue230
 t77:=Tryz.underlying231
 a77:=Tryz.isAgg231
 z77:=Tryz.sizeOf231
 v77:=Tryz.zeroValue231 }
end Go.Proofs
namespace Go.Proofs.YtmcncjgbkobjnaaGreat.Am
open Go.RowKit Go.Proofs.YtmcncjgbkobjnaaGreat.P
theorem RV {w:World} {M:Nat->Prop} {k:IntKind} {l:List Int} {u:Value} (h:RP w M (.sl false false l.length (ab (eI k) l)) u) :
  ∃A c,u=.slice A l.length c∧l.length<=c∧c<=maxLen∧(A=none->l.length=0∧c=0)∧(l≠[]->∃b o,A=some ⟨b,o,none⟩∧b<w.heap.size∧¬M b∧∀j,j<l.length->w.cell? ⟨b,o+j,none⟩=some (.int k (l.getD j 0))):=by
 cases h with
 | sl A c nl tight n xs us h1 h2 h3 h4 h5 h6 h7 h8 =>
  refine⟨A,c,rfl,h1,h2,h4,fun hl =>?_⟩
  have hne:ab (eI k) l≠[]:=by
   intro he
   have:=congrArg List.length he
   rw[mN]at this
   exact hl (agO this)
  obtain⟨b,o,rfl,hb,hM,hc⟩:=h6 hne
  refine⟨b,o,rfl,hb,hM,fun j hj =>?_⟩
  rw[hc j (by rw[mN];exact hj)]
  have hg:(ab (eI k) l)[j]? = some (.int k (l.getD j 0)):=by rw[sY];simp[List.getD,hj]
  rw[abQ (h7 j _ hg)]
end Go.Proofs.YtmcncjgbkobjnaaGreat.Am
namespace Go.Proofs.YtmcncjgbkobjnaaGreat.Am
open Go.RowKit Go.Shelf Go.Proofs.YtmcncjgbkobjnaaGreat.P
attribute [local go_sem] Oper.semAt_some
def upto (f:Nat->Int) (k:Nat):List Int:=(List.range k).map f
theorem IX (f:Nat->Int) (k:Nat):upto f (k+1)=upto f k++[f k]:=by simp[upto,List.range_succ]
theorem Pk (f:Nat->Int) (k:Nat):(upto f k).length=k:=by simp[upto]
theorem ZO (zs:List Int):upto (fun j=>zs[j]?.getD 0) zs.length=zs:=by
 apply List.ext_getElem
 ·simp[upto]
 ·intro i h1 h2
  simp[upto,h2]
theorem VY (zs:List Int) {k:Nat} (hk:k<=zs.length):upto (fun j=>zs[j]?.getD 0) k=zs.take k:=by
 apply List.ext_getElem
 ·simp[upto,hk]
 ·intro i h1 h2
  have:i<zs.length:=by simp[upto]at h1;omega
  simp[upto,this]
set_option maxRecDepth 100000 in
set_option maxHeartbeats 2000000 in
theorem Rz (F:Fence) (n:Nat) (h7:F.fn 208) (hro:F.round=none) (hn:1<=n) (l Bs Bo n₀ b off len cap:Nat) (zs:List Int) (hreach:len*8<=140737488351232) (hb:b<n₀) (J Jx:List Int->World->Prop)
  (hY:∀pre x W,J pre W->pre.length<len->YieldAt F (n-1) Tryz.prog l #[.int .i64 x] W fun e W' =>
   (e=.returned (.bool true)∧J (pre++[x]) W'∧Below n₀ W W')∨(e=.returned (.bool false)∧Jx (pre++[x]) W'))
  (W:World) (hBs:W.cell? ⟨Bs,Bo,none⟩=some (.slice (some ⟨b,off,none⟩) len cap)) (hc:∀j,j<len->W.cell? ⟨b,off+j,none⟩=some (.int .i64 (zs[j]?.getD 0))) (h0:J [] W) :
  CallsIn F n Tryz.prog 208 #[.func (.yield l) #[] #[],.pointer (some ⟨Bs,Bo,none⟩)] W fun e W'=>(∃v,e=.returned v) ∧
   ((∃ys,ys=upto (fun j=>zs[j]?.getD 0) len∧J ys W')∨(∃pre,(∃k,k<=len∧pre=upto (fun j=>zs[j]?.getD 0) k)∧Jx pre W')):=by
 refine callsIn_of_wp Tryz.func208 rfl h7 ?_ hro
 simp only[Tryz.ntmps208,agP,List.length_cons,List.length_nil,Nat.reduceAdd,Nat.reduceSub,ah2,Array.replicate_zero,ah4,ah5,List.nil_append,List.cons_append]
 gi_wp2
 gi_loopw [7] (fun i wr=>∃k:Nat,k<=len∧i=.int .i64 k∧J (upto (fun j=>zs[j]?.getD 0) k) wr∧Below n₀ W wr)
  (fun i _=>len-(intOf i).toNat)
 case atStart=>exact⟨0,afw _,rfl,h0,Below.refl _ _⟩
 case round =>
  obtain⟨k,hk,rfl,hJs,hnx⟩:=hrel
  have hcx:k<len->wr.cell? ⟨b,off+k,none⟩=some (.int .i64 (zs[k]?.getD 0)):=fun h=>(hnx.cell (p:=⟨b,off+k,none⟩) hb).trans (hc k h)
  by_cases hlt:k<len
  ·obtain⟨fn,tmps,assign,body,hy,hR⟩:=hY _ (zs[k]?.getD 0) wr hJs (by rw[Pk];exact hlt)
   have hcx':=hcx hlt
   gi_wp2
   apply hR.mono
   rintro e W3 (⟨rfl,hJ3,hk3⟩|⟨rfl,hJx3⟩)
   ·gi_wp2
    go_roundw
    case rel=>exact⟨k+1,by omega,by simp,by rw[IX];exact hJ3,hnx.trans hk3⟩
    case measure=>simp[intOf];omega
   ·gi_wp2
    refine bodyPost_ret (results_none rfl _ _ _) rfl ?_
    exact⟨⟨_,rfl⟩,.inr ⟨_,⟨k+1,by omega,(IX _ _).symm⟩,hJx3⟩⟩
  ·obtain rfl:k=len:=by omega
   gi_wp2
   go_end0
   exact⟨⟨_,rfl⟩,.inl ⟨_,rfl,hJs⟩⟩
set_option maxRecDepth 100000 in
set_option maxHeartbeats 1000000 in
theorem EX (F:Fence) (n:Nat) (h7:F.fn 208) (hro:F.round=none) (l Bs Bo cap:Nat) (A:Option Addr) (J:List Int->World->Prop) (W:World) (hBs:W.cell? ⟨Bs,Bo,none⟩=some (.slice A 0 cap)) (h0:J [] W) :
  CallsIn F n Tryz.prog 208 #[.func (.yield l) #[] #[],.pointer (some ⟨Bs,Bo,none⟩)] W fun e W'=>(∃v,e=.returned v)∧J [] W':=by
 refine callsIn_of_wp Tryz.func208 rfl h7 ?_ hro
 simp only[Tryz.ntmps208,agP,List.length_cons,List.length_nil,Nat.reduceAdd,Nat.reduceSub,ah2,Array.replicate_zero,ah4,ah5,List.nil_append,List.cons_append]
 gi_wp2
 gi_loopw [7] (fun i wr=>i=.int .i64 0∧J [] wr) (fun _ _=>0)
 case atStart=>exact⟨rfl,h0⟩
 case round =>
  obtain⟨rfl,hJs⟩:=hrel
  gi_wp2
  go_end0
  exact⟨⟨_,rfl⟩,hJs⟩
def Ints (n₀:Nat) (W:World) (sv:Value) (zs:List Int):Prop :=
 (∃A c,sv=.slice A 0 c∧zs=[])∨∃b off cap,sv=.slice (some ⟨b,off,none⟩) zs.length cap∧b<n₀∧∀j,j<zs.length->W.cell? ⟨b,off+j,none⟩=some (.int .i64 (zs[j]?.getD 0))
theorem Ints.below {n₀:Nat} {A B:World} (h:Below n₀ A B) {sv:Value} {zs:List Int} : Ints n₀ A sv zs->Ints n₀ B sv zs
 | .inl e =>.inl e
 | .inr ⟨b,off,cap,e,hb,hc⟩ =>.inr ⟨b,off,cap,e,hb,fun j hj=>(h.cell (p:=⟨b,off+j,none⟩) hb).trans (hc j hj)⟩
theorem Kw (F:Fence) (n:Nat) (h7:F.fn 208) (hro:F.round=none) (hn:1<=n) (Bs Bo n₀:Nat) (sv:Value) (zs:List Int) (hreach:zs.length*8<=140737488351232) (w:World) (hBs:Bs<w.heap.size) (hn₀:n₀<=w.heap.size)
  (hc:w.cell? ⟨Bs,Bo,none⟩=some sv) (hI:Ints n₀ w sv zs) :
  SeqStopsK F n Tryz.prog 208 #[.pointer (some ⟨Bs,Bo,none⟩)] (fun x:Int=>#[Value.int .i64 x]) (Below n₀) (fun ys=>ys=zs) (fun pre=>pre <+: zs) zs.length w:=fun l J Jx W hW _ _ hY h0=>by
 have hc':=(hW.cell (p:=⟨Bs,Bo,none⟩) hBs).trans hc
 rcases hI.below (hW.mono hn₀) with⟨A,c,rfl,rfl⟩|⟨b,off,cap,rfl,hb,hcs⟩
 ·exact (EX F n h7 hro l Bs Bo _ _ J W hc' h0).mono fun e W' ⟨he,hj⟩=>⟨he,.inl ⟨_,rfl,hj⟩⟩
 ·refine (Rz F n h7 hro hn l Bs Bo n₀ b off zs.length cap zs hreach hb J Jx hY W hc' hcs h0).mono ?_
  rintro e W' ⟨he,⟨ys,rfl,hj⟩|⟨pre,⟨k,hk,rfl⟩,hj⟩⟩
  ·exact⟨he,.inl ⟨_,ZO zs,hj⟩⟩
  ·exact⟨he,.inr ⟨_,by rw[VY zs hk];exact List.take_prefix _ _,hj⟩⟩
theorem adf:(Tryz.prog.info? 3).map (fun i=>(i.zero,i.size,i.bytes))=some (some (.int .i64 0),1,8):=by kernel_rfl
set_option maxRecDepth 100000 in
set_option maxHeartbeats 2000000 in
theorem appendSeq_in (F:Fence) (n:Nat) (h3:F.fn 221) (h7:F.fn 208) (hro:F.round=none) (hn:3<=n) (Bs Bo:Nat) (sv:Value) (zs:List Int) (hreach:zs.length*8<=140737488351232) (w:World)
  (hBs:Bs<w.heap.size) (hc:w.cell? ⟨Bs,Bo,none⟩=some sv) (hI:Ints w.heap.size w sv zs) :
  CallsIn F n Tryz.prog 221 #[.slice none 0 0,.func (.func 208) #[] #[.pointer (some ⟨Bs,Bo,none⟩)]] w fun e W'=>∃v,e=.returned v∧W'.ownsRow w.heap.size 3 1 v zs.length (zs.map (Value.int .i64))∧(v=.slice none 0 0↔zs=[])∧Below w.heap.size w W':=by
 have h1:1<=n:=by omega
 obtain⟨i0,hi,hz0,hz1,hz2⟩:=info_parts adf
 refine callsIn_of_wp_marks Tryz.func221 rfl h3 ?_ hro
 simp only[Tryz.ntmps221,agP,List.length_cons,List.length_nil,Nat.reduceAdd,Nat.reduceSub,ah2,Array.replicate_zero,ah4,ah5,List.nil_append,List.cons_append]
 gi_wp2
 have bO:=Boxed.new w 22 (.slice none 0 0)
 have hB0:Below w.heap.size w (w.alloc (.cells #[.slice none 0 0] 22)):=(Below.refl _ w).alloc (afv _) _
 refine wpIn_rangeFunc_ownG hro h1 (gf:=208) (lb:=#[.pointer (some ⟨Bs,Bo,none⟩)]) rfl h7 (enters_of Tryz.func208 (by kernel_rfl) rfl)
  (Kw F (n-1) h7 hro (by omega) Bs Bo w.heap.size sv zs hreach _ (by simp;omega) (by simp) ((hB0.cell (p:=⟨Bs,Bo,none⟩) hBs).trans hc) (hI.below hB0)) belowK_t (belowK_b (by simp)) (Below.refl _ _) (fun _=>rfl)
  (fun pre W=>(∃v,Boxed W w.heap.size 22 v∧W.ownsRow w.heap.size 3 1 v pre.length (pre.map (Value.int .i64))∧(v=.slice none 0 0↔pre=[]))∧Below w.heap.size w W)
  (fun _ _ _=>False)
  (OwnFrom.and (Own.from (holdsRow_own w.heap.size w.heap.size 22 3 1 (fun pre=>pre.length) (fun pre=>pre.map (Value.int .i64)) (fun pre v=>v=.slice none 0 0↔pre=[])) _) (ownFrom_below (afv _) (by simp)))
  (fun _ _ _ _ _ hs _ _=>hs)
  ⟨⟨_,bO,World.ownsRow_nil _ _ _ _,by simp⟩,hB0⟩
  (fun x=>{ tmps:=#[.slice none 0 0,.func (.func 208) #[] #[.pointer (some ⟨Bs,Bo,none⟩)],.pointer (some ⟨w.heap.size,0,none⟩),undef,.slice none 0 0,.int .i64 x,.func (.func 208) #[] #[.pointer (some ⟨Bs,Bo,none⟩)],.int .i64 x,undef,undef,undef,undef,undef],defers:=[] }) ?assign ?body ?done ?stop
 case assign =>
  intro l x W K hK
  gi_wp2
  exact hK
 case body =>
  rintro l pre x W ⟨⟨v,hv,hrow,hnil⟩,hB⟩ hlt
  have hc:=hv.cell
  gi_wp2_with (gi_at_builtin;refine wpListIn_append_own _ rfl _ _ 22 rfl w.heap.size 3 i0 (.int .i64 0) 1 8 Tryz.underlying22 hi hz0 hz1 hz2 rfl (by decide) _ _ _ rfl (hrow.alloc _) ⟨W.heap.size,0,none⟩ 1 1 [.int .i64 x] rfl rfl (cell_one_new _ _ _) (by simp[Value.oneCell']) (by unfold maxLen;omega) (by omega) (by have:=hB.size;simp;omega) ?_;intro v' w1 hown' hgrow _;obtain⟨g',cap',rfl⟩:=ownsRow_succ hown';obtain⟨hv1,hv2,hr2,hk2,hb2⟩:=hv.appended (by decide) hrow hB.size (afv _) hown' hgrow;have hc1:=hv1.cell;have hf1:=hv1.frozen)
  exact⟨hk2.from _,hb2,⟨_,hv2,by simpa using hr2,by simp⟩,hB.trans hb2⟩
 case done =>
  rintro D ys W hD rfl ⟨⟨v,hv,hrow,hnil⟩,hB⟩ hK
  have hc:=hv.cell
  gi_wp2
  refine⟨by simp,.inl ⟨_,_,rfl,run_takeDeferred hK,?_⟩⟩
  exact⟨_,results_tmp rfl _ _ _,v,rfl,ownsRow_putObj hrow _ hK rfl,hnil,hB.trans (belowK_b (w:=w) (afv _) W D _ _ (by simp at hD;omega) hK rfl rfl)⟩
 case stop =>
  rintro D c pre W _ _ h _
  exact h.elim
set_option maxHeartbeats 1000000 in
theorem collect_in (F:Fence) (n:Nat) (h2:F.fn 206) (h3:F.fn 221) (h7:F.fn 208) (hro:F.round=none) (hn:4<=n) (Bs Bo:Nat) (sv:Value) (zs:List Int) (hreach:zs.length*8<=140737488351232) (w:World)
  (hBs:Bs<w.heap.size) (hc:w.cell? ⟨Bs,Bo,none⟩=some sv) (hI:Ints w.heap.size w sv zs) :
  CallsIn F n Tryz.prog 206 #[.func (.func 208) #[] #[.pointer (some ⟨Bs,Bo,none⟩)]] w fun e W'=>∃v,e=.returned v∧W'.ownsRow w.heap.size 3 1 v zs.length (zs.map (Value.int .i64))∧(v=.slice none 0 0↔zs=[])∧Below w.heap.size w W':=by
 have h1:1<=n:=by omega
 refine callsIn_of_wp Tryz.func206 rfl h2 ?_ hro
 simp only[Tryz.ntmps206,agP,List.length_cons,List.length_nil,Nat.reduceAdd,Nat.reduceSub,ah2,Array.replicate_zero,ah4,ah5,List.nil_append,List.cons_append]
 gi_wp2_with (gi_at_call 221;refine (appendSeq_in F (n-1) h3 h7 hro (by omega) Bs Bo sv zs hreach _ hBs hc hI).mono ?_;rintro e w' ⟨v,rfl,hrow,hnil,hb⟩)
 go_ret
 exact⟨v,rfl,hrow,hnil,hb⟩
theorem aaO (a:Option Addr) (len cap:Nat) (w:World) :
  Calls Tryz.prog 175 #[.slice a len cap] w fun e w'=>e=.returned (.func (.func 208) #[] #[.pointer (some ⟨w.heap.size,0,none⟩)])∧w'=w.alloc (.cells #[.slice a len cap] 22):=by
 go_enter Tryz.func175,Tryz.ntmps175
 go_wp2
 go_ret
 exact⟨rfl,rfl⟩
set_option maxHeartbeats 1000000 in
theorem aaJ (Bs Bo:Nat) (sv:Value) (zs:List Int) (hreach:zs.length*8<=140737488351232) (w:World) (hBs:Bs<w.heap.size) (hc:w.cell? ⟨Bs,Bo,none⟩=some sv) (hI:Ints w.heap.size w sv zs) :
  Calls Tryz.prog 174 #[.func (.func 208) #[] #[.pointer (some ⟨Bs,Bo,none⟩)]] w fun e w'=>∃v,e=.returned v∧Below w.heap.size w w' ∧
   ((zs=[]∧v=.slice none 0 0)∨∃g cap cs,v=.slice (some ⟨g,0,none⟩) zs.length cap∧w.heap.size<=g∧w'.heap[g]? = some (.cells cs 3 (0,0))∧zs.length<=cap∧cap<=maxLen∧cs.size=cap∧∀j,j<zs.length->cs.getD j undef=.int .i64 ((AP zs).getD j 0)):=by
 refine (callsIn_wide (n:=6)).1 ?_
 have hN:(1:Nat)<=6:=by omega
 have cC:=collect_in Fence.wide 5 trivial trivial trivial rfl (by omega) Bs Bo sv zs hreach w hBs hc hI
 refine callsIn_of_wp Tryz.func174 rfl trivial ?_ rfl
 simp only[Tryz.ntmps174,agP,List.length_cons,List.length_nil,Nat.reduceAdd,Nat.reduceSub,ah2,Array.replicate_zero,ah4,ah5,List.nil_append,List.cons_append]
 have hf1:Fence.wide.fn 206:=trivial
 have hf2:Fence.wide.fn 207:=trivial
 have cS:ac4 Tryz.prog 207:=fun blk off cap zs w hH hb hl=>Any.slices_Sort_int Tryz.S4 blk off cap zs w hH hb hl
 by_cases hz:zs=[]
 ·subst hz
  gi_wp2_with (first
   | (gi_at_call 206;refine cC.mono ?_;clear cC;rintro e w' ⟨v,rfl,hrow,hnil,hb⟩;obtain rfl:v=.slice none 0 0:=hnil.2 rfl)
   | (gi_at_call 207;refine (callsIn_wide.2 (Any.slices_Sort_int_none Tryz.S4 _ _ _)).mono ?_;rintro e2 w2 ⟨rfl,rfl⟩))
  go_ret
  first|exact⟨_,rfl,hb,.inl rfl⟩|exact⟨_,rfl,hb,.inl ⟨rfl,rfl⟩⟩
 ·gi_wp2_with (gi_at_call 206;refine cC.mono ?_;clear cC;rintro e w' ⟨v,rfl,hrow,hnil,hb⟩;obtain⟨g,cap,cur,rfl,k1,k2,k3,k4,k5,k6⟩:∃g cap cur,v=.slice (some ⟨g,0,none⟩) zs.length cap∧w.heap.size<=g∧w'.heap[g]? = some (.cells cur 3 (0,0))∧zs.length<=cap∧cap<=maxLen∧cur.size=cap*1∧cur.toList.take (zs.length*1)=zs.map (Value.int .i64):=hrow.2.resolve_left (fun hv=>hz (hnil.1 hv.1)))
  rw[Nat.mul_one]at k5 k6
  have hcur:∀j,j<zs.length->cur[j]? = some (.int .i64 (zs.getD j 0)):=by
   intro j hj
   have:(cur.toList.take zs.length)[j]? = (zs.map (Value.int .i64))[j]?:=by rw[k6]
   rw[afL,if_pos hj,afs,agm]at this
   rw[this]
   simp[List.getD,hj]
  have hH:Go.Sort.Holds (Value.int .i64) w' g 0 zs.toArray:=by
   intro j hj
   simp only[agP]at hj
   refine⟨?_,by simp[World.frozen?,k2]⟩
   simp only[World.cell?,k2,agj]
   rw[hcur j hj]
   simp[List.getD,hj]
  have hlt:g<w'.heap.size:=(afz.1 k2).1
  gi_wp2_with (gi_at_call 207;refine (callsIn_wide.2 (cS g 0 cap zs w' hH hlt (by omega))).mono ?_;rintro e2 w2 ⟨rfl,q,os,rfl⟩)
  go_ret
  refine⟨_,rfl,?_,.inr ⟨g,cap,Go.Sort.putCells (Value.int .i64) 0 (AP zs).toArray cur,rfl,k1,?_,k3,k4,?_,fun j hj =>?_⟩⟩
  ·refine⟨hb.os,hb.tape,hb.output,afx hb.size (by simp[Go.Sort.grow,Go.Sort.ahead]),fun k hk =>?_⟩
   have hk':k<w'.heap.size:=afy hk hb.size
   rw[Go.Sort.heap_grow_old _ _ (by simpa [Go.Sort.ahead] using hk'),Eg (by omega)]
   exact hb.block k hk
  ·rw[Go.Sort.heap_grow_old _ _ (by simpa [Go.Sort.ahead] using hlt)]
   exact Oy k2
  ·simp[Go.Sort.putCells,k5]
  ·rw[J9 (by omega),if_pos (by rw[p6];omega),Nat.sub_zero]
theorem VZ:bP Tryz.prog 175 (fc (eQ (po (eI .i64))) Ul (fun r =>.clean (.clo 208 0 [.ip [.sl false false r.length (ab (eI .i64) r)]]))) where
 callable:=⟨_,Tryz.func175,by kernel_rfl,by kernel_rfl⟩
 calls lent ds rk out hg:=by
  obtain⟨rfl,rfl,l,r,rfl,hr,rfl⟩:=pP hg
  cases hr
  intro w M vs hM hargs
  have hsz:vs.size=1:=hargs.size
  rw[ZP hsz]
  have hu:=hargs.at_ 0 _ rfl
  generalize vs.getD 0 undef=u at *
  have hu':RP w M (.sl false false l.length (ab (eI .i64) l)) u:=hu
  obtain⟨A,c,rfl,-⟩:=RV hu'
  refine (aaO A l.length c w).mono fun e w' ⟨he,hw⟩ =>?_
  subst hw
  have hb:Below w.heap.size w (w.alloc (.cells #[.slice A l.length c] 22)):=(Below.refl _ w).alloc (afv _) _
  have hk:∀b,b<w.heap.size->¬M b->b<(w.alloc (.cells #[.slice A l.length c] 22)).heap.size∧¬M b∧(w.alloc (.cells #[.slice A l.length c] 22)).heap[b]? = w.heap[b]?:=fun b h1 h2=>⟨by simp;omega,h2,hb.block b h1⟩
  refine⟨_,he,hb,RP.clo _ 0 _ [.pointer (some ⟨w.heap.size,0,none⟩)] rfl fun j x hj =>?_⟩
  cases j with
  | succ j=>simp at hj
  | zero =>
   simp only[List.getElem?_cons_zero,afE]at hj
   subst hj
   refine RP.ip _ ⟨w.heap.size,0,none⟩ (fun _ =>.slice A l.length c) (fun _=>⟨w.heap.size,0,rfl,by simp,fun h=>by have:=hM _ h;omega,fun j hj =>?_⟩) (fun j x hj =>?_) (fun x hx =>?_)
   ·simp only[List.length_cons,List.length_nil]at hj
    have:j=0:=by omega
    subst this
    exact (aK (heap_alloc_new w _) (j:=0) (by simp)).trans rfl
   ·cases j with
    | succ j=>simp at hj
    | zero =>
     simp only[List.getElem?_cons_zero,afE]at hj
     subst hj
     exact hu'.keep hk
   ·simp only[afS]at hx
    subst hx
    rfl
theorem VL:bP Tryz.prog 174 (fc (eQ (Uw 208 0 (eQ (Z3 (kV (eI .i64)))))) Kl (fun r =>.fresh 3 1 r.length (ab (eI .i64) r))) where
 callable:=⟨_,Tryz.func174,by kernel_rfl,by kernel_rfl⟩
 calls lent ds rk out hg:=by
  obtain⟨rfl,rfl,l,r,rfl,hr,rfl⟩:=pP hg
  unfold Kl at hr
  split at hr
  rotate_left
  ·cases hr
  rename_i hreach
  cases hr
  intro w M vs hM hargs
  have hsz:vs.size=1:=hargs.size
  rw[ZP hsz]
  have hu:=hargs.at_ 0 _ rfl
  generalize vs.getD 0 undef=u at *
  have hu':RP w M (.clo 208 0 [.ip [.sl false false l.length (ab (eI .i64) l)]]) u:=hu
  cases hu' with
  | clo f kk xs us h1 h2 =>
   have hp:=h2 0 _ rfl
   have hus:us=[us.getD 0 undef]:=by
    match us,h1 with
    | [x],_=>rfl
   rw[hus]
   generalize us.getD 0 undef=q at *
   cases hp with
   | ip xs ad us2 h6 h7 h8 =>
    obtain⟨b,o,rfl,hb,hMb,hcell⟩:=h6 (by simp)
    have hcell0:=hcell 0 (by simp)
    rw[af4]at hcell0
    have hs:=h7 0 _ rfl
    have hI:Ints w.heap.size w (us2 0) l:=by
     obtain⟨A,c,hA,k1,k2,k3,k4⟩:=RV hs
     rw[hA]
     by_cases hl:l=[]
     ·subst hl;exact .inl ⟨A,c,rfl,rfl⟩
     ·obtain⟨b',o',rfl,hb',hM',hc'⟩:=k4 hl
      exact .inr ⟨b',o',c,rfl,hb',fun j hj=>by rw[hc' j hj];simp[List.getD]⟩
    refine (aaJ b o (us2 0) l hreach w hb hcell0 hI).mono fun e w' ⟨v,he,hbw,hv⟩ =>?_
    refine⟨v,he,hbw,?_⟩
    rcases hv with⟨rfl,rfl⟩|⟨g,cap,cs,rfl,k1,k2,k3,k4,k5,k6⟩
    ·refine .inr ⟨?_,?_,none,rfl⟩
     ·rw[Iw];rfl
     ·rw[Iw];rfl
    ·refine .inl ⟨(g,0),cap,cs,by rw[p6],.inl k1,k2,by rw[p6];exact k3,k4,by simp only;omega,by rw[mN,p6];simp only;omega,fun j d hj =>?_⟩
     have hjl:=(afY.1 hj).1
     rw[mN,p6]at hjl
     rw[sY,aft]at hj
     obtain⟨z,hz,rfl⟩:=hj
     simp only[agj]
     rw[k6 j hjl]
     have:(AP l).getD j 0=z:=by simp[List.getD,hz]
     rw[this]
     exact⟨rfl,.int _ _⟩
end Go.Proofs.YtmcncjgbkobjnaaGreat.Am
namespace Go.Proofs.YtmcncjgbkobjnaaGreat.Am
open Go.RowKit Go.Proofs.YtmcncjgbkobjnaaGreat.P
def E3 {α:Type} (e:gY α):gY (List α):=⟨fun l=>[.nx l.length (ab e l)],1,fun _=>rfl,by decide,fun x y h=>by
 simp only[afT,D.nx.injEq,and_true]at h
 exact sX e _ _ h.2⟩
theorem ud {α:Type} (e:gY α) (l:List α):(E3 e).cells l=[.nx l.length (ab e l)]:=ah6
theorem xk {α:Type} (e:gY α):(E3 e).size=1:=ah6
section
variable {α:Type} (E:gY α) {l:List α} {i:Int} {x x':α}
theorem Ka (cs:List D) (o:Nat) (d:D) (h:o<cs.length):(putCells cs o [d]).length=cs.length:=by
 simp[putCells];omega
theorem Kb (cs:List D) (o:Nat) (d d':D) (h:o<cs.length):putCells (putCells cs o [d]) o [d']=putCells cs o [d']:=by
 unfold putCells
 have h1:(cs.take o).length=o:=by simp;omega
 have h2:(cs.take o++[d]++cs.drop (o+[d].length)).take o=cs.take o:=by
  rw[agR,agV (by omega),agW (by omega)]
 have h3:(cs.take o++[d]++cs.drop (o+[d].length)).drop (o+[d'].length)=cs.drop (o+[d'].length):=by
  rw[agS (by simp;omega),ahh (by simp;omega),ahe]
  rfl
 rw[h2,h3]
theorem JY (fo:Nat) (h:P.idx l i=some x) (hfo:fo+1<=E.size):i.toNat*E.size+fo<(ab E l).length:=by
 have:=re E h
 rw[bu]
 omega
theorem Yv (fo:Nat) (d d':D) (h:P.idx l i=some x) (hc:E.cells x'=putCells (E.cells x) fo [d']) (hfo:fo+1<=E.size):putCells (putCells (ab E l) (i.toNat*E.size+fo) [d]) (i.toNat*E.size+fo) [d']=ab E (l.set i.toNat x'):=by
 rw[Kb _ _ _ _ (JY E fo h hfo)]
 exact eV E fo [d'] h hc hfo
theorem aaB (fo:Nat) (d:D) (h:P.idx l i=some x) (hfo:fo+1<=E.size):i.toNat*E.size+fo+1<=(putCells (ab E l) (i.toNat*E.size+fo) [d]).length:=by
 rw[Ka _ _ _ (JY E fo h hfo)]
 exact JY E fo h hfo
end
theorem Iu {t s nv n o:Nat} {fz:Bool} {cs xs cs':List D} : zh t s nv fz cs o (some ⟨nv,t,cs',fz,true,false⟩) (some (.nx n xs))=[.nr t s nv (putCells cs o [.nx n cs'])]:=by
 simp[zh,HY]
theorem It {t s nv n o:Nat} {fz:Bool} {cs xs:List D} : zh t s nv fz cs o none (some (.nx n xs))=[.nr t s nv (putCells cs o [.und])]:=ah6
theorem aas {α:Type} {E:gY α} {T:Nat->Option Ty} {el B ty' s f:Nat} {φ:Ty} {k:IntKind} {n:Int} {z:α} {m:List α} (hφ:T el=some φ) (hz:kU φ f=E.cells z) (hs:φ.size=E.size) (hd:(φ.zero.map kW).all er=true) (hl:φ.zero.length=φ.size) (hn:Yd ((φ.zero.map kW).drop f).head? = true) (hB:φ.bytes=B) (h:Fz B n n z=some m)
  : ∀(b c:Nat) (z0:List Value) (q:Bool) (e d:Nat),d<1000000->p9 T ⟨.slice el,b,c,z0,q⟩ e d ty' s f (.int k n) (.int k n)=some ⟨.buf d e φ.size 0 m.length,[(d,some ⟨e,el,[.nr ty' s (4*e+2) (ab E m)],false,true,true⟩)]⟩:=by
 intro b c z0 q e d hdp
 obtain⟨h1,h2,h3,h4,h5⟩:=mk_one E h
 have hnat:mf (.int k n)=some n.toNat:=by simp[mf,h1]
 have hpos:=E.pos
 unfold p9
 simp only[hφ,hnat]
 rw[if_pos ⟨afv _,by rw[h2];exact h3,by rw[h2,hB];exact h5,by omega,hd,hl,by rw[bZ];exact hdp,hn⟩,hz,h2,h4]
theorem Gw {k:IntKind} {n:Int} : er (.int k n)=true:=ah6
theorem Cl {b:Bool} : er (.bool b)=true:=ah6
theorem Gx {b:ByteArray} : er (.str b)=true:=ah6
theorem LC {a b:Bool} {n:Nat} {xs:List D} : er (.sl a b n xs)=true:=ah6
def mD {α β:Type} (A:jM α) (F:α->Option β) (R:β->Nat×Nat×Nat×Nat×Nat×List D):List D->Option (Nat×Nat×Nat×Nat×Nat×List D):=fun ds=>open Classical in if h:∃a,A.ds a=ds then (F (Classical.choose h)).map R else none
theorem X3 {α β:Type} {A:jM α} {F:α->Option β} {R:β->Nat×Nat×Nat×Nat×Nat×List D} {ds:List D} {q:Nat×Nat×Nat×Nat×Nat×List D} (h:mD A F R ds=some q):∃a r,ds=A.ds a∧F a=some r∧q=R r:=by
 unfold mD at h
 split at h
 ·rename_i he
  rw[aft]at h
  obtain⟨r,h1,h2⟩:=h
  exact⟨_,r,(Classical.choose_spec he).symm,h1,h2.symm⟩
 ·cases h
structure FOk (P:Program) (f:FuncId) (p:List D->Option (Nat×Nat×Nat×Nat×Nat×List D)):Prop where
 callable:dy P f
 calls:∀args ty t s S n cs,p args=some (ty,t,s,S,n,cs)->I3 P f args ty t s S n cs
theorem FOk.of {P:Program} {T:Nat->Option Ty} {Γ:Env} (hT:gm P T) (hΓ:bA P Γ) (hm:P.follows .mixedOrders=true) {α β:Type} {A:jM α} {F:α->Option β} {R:β->Nat×Nat×Nat×Nat×Nat×List D} {f:FuncId} {fn:Func} (hf:P.funcs[f]? = some fn) (hok:(match fn.body with|some c=>codeOk c|none=>true)=true)
  (hc:(fn.name == "runtime.NumGoroutine")=false∧fn.body.isNone=false) (hn:∀a,(A.ds a).length<=fn.ntmps) (h:∀a r,F a=some r->Kx T Γ FU fn (A.ds a)=some (R r)):FOk P f (mD A F R) where
 callable:=⟨fn,hf,hc⟩
 calls args ty t s S n cs hg:=by
  obtain⟨a,r,rfl,hr,he⟩:=X3 hg
  exact Ky hT hΓ hm hf hok (hn a) ((h a r hr).trans (by rw[he]))
def acg {α β γ:Type} (ty t s:Nat) (EN:gY γ) (A:jM α) (F:γ->α->Option (γ×β)) (R:β->D):Nat->Nat->Nat->Nat->List D->List D->Option (D×List D):=fun ty' t' s' o cs args =>
 open Classical in if h:∃p:List D×List D×γ×α,ty'=ty∧t'=t∧s'=s∧cs=p.1++(EN.cells p.2.2.1++p.2.1)∧o=p.1.length∧args=A.ds p.2.2.2 then
  (F (Classical.choose h).2.2.1 (Classical.choose h).2.2.2).map fun r=>(R r.2,(Classical.choose h).1++(EN.cells r.1++(Classical.choose h).2.1)) else none
theorem Vx {α β γ:Type} {ty t s:Nat} {EN:gY γ} {A:jM α} {F:γ->α->Option (γ×β)} {R:β->D} {ty' t' s' o:Nat} {cs args:List D} {d:D} {cs':List D} (h:acg ty t s EN A F R ty' t' s' o cs args=some (d,cs')) :
  ty'=ty∧t'=t∧s'=s∧∃pre post x a r,cs=pre++(EN.cells x++post)∧o=pre.length∧args=A.ds a∧F x a=some r∧d=R r.2∧cs'=pre++(EN.cells r.1++post):=by
 unfold acg at h
 split at h
 ·rename_i he
  obtain⟨h1,h2,h3,h4,h5,h6⟩:=Classical.choose_spec he
  rw[aft]at h
  obtain⟨r,k1,k2⟩:=h
  simp only[Prod.mk.injEq]at k2
  exact⟨h1,h2,h3,_,_,_,_,r,h4,h5,h6,k1,k2.1.symm,k2.2.symm⟩
 ·cases h
structure NOk (P:Program) (f:FuncId) (p:Nat->Nat->Nat->Nat->List D->List D->Option (D×List D)):Prop where
 callable:dy P f
 calls:∀ty t s o cs args d cs',p ty t s o cs args=some (d,cs')->I4 P f ty t s o cs args d cs'
theorem NOk.of {P:Program} {T:Nat->Option Ty} {Γ:Env} (hT:gm P T) (hΓ:bA P Γ) (hm:P.follows .mixedOrders=true) {α β γ:Type} {ty t s:Nat} {EN:gY γ} {A:jM α} {F:γ->α->Option (γ×β)} {R:β->D} {f:FuncId} {fn:Func} (hf:P.funcs[f]? = some fn) (hok:(match fn.body with|some c=>codeOk c|none=>true)=true)
  (hc:(fn.name == "runtime.NumGoroutine")=false∧fn.body.isNone=false) (hn:∀a,(A.ds a).length+1<=fn.ntmps) (h:∀pre post x a x' r,F x a=some (x',r)->RD T Γ FU fn ty t s pre.length (pre++(EN.cells x++post)) (A.ds a)=some (R r,pre++(EN.cells x'++post))):NOk P f (acg ty t s EN A F R) where
 callable:=⟨fn,hf,hc⟩
 calls ty' t' s' o cs args d cs' hg:=by
  obtain⟨rfl,rfl,rfl,pre,post,x,a,r,rfl,rfl,rfl,hr,rfl,rfl⟩:=Vx hg
  exact Kz hT hΓ hm hf hok (hn a) (h pre post x a r.1 r.2 hr)
theorem He {α:Type} {l:List α} : (ade l).length=l.length:=afZ ..
section
variable {pre l:List D} {k m:Nat}
end
theorem Nf {τ:Ty} {h:Nat->Option Row} {x v o:Nat} : my τ h x v o none=none:=ah6
theorem SY {d:D} {l:List D} : (d::l).head? = some d:=ah6
theorem TA {r:Row} {f:Row->Option Row} : (some r).bind f=f r:=ah6
theorem Tz {f:Row->Option Row} : (none:Option Row).bind f=none:=ah6
theorem Lq {x o:Nat} : clP x o none=none:=ah6
theorem KV {q:Option (List D×List Nat)} : caC none q=none:=ah6
theorem Ga {Γ:Env} {h:Nat->Option Row} {e g:Nat} {dst:Option Nat} : aaa Γ h e dst g none=none:=ah6
theorem ZQ {o:Nat} {cs:List D} : lC 0 o cs=cs:=IZ o cs
theorem aaU {x o n:Nat} (h:n<1000000):(NK x o=n)=False:=by
 have:=dX x o
 have:=bZ
 exact propext ⟨fun e=>by omega,fun e=>e.elim⟩
theorem We {x o n:Nat} (h:n<1000000):(n=NK x o)=False:=by
 have:=dX x o
 have:=bZ
 exact propext ⟨fun e=>by omega,fun e=>e.elim⟩
theorem vn:type_of% (ai @It<|ai @He<|ai @Iu<|ai @aaU<|ai @We<|ai @U7.eq_1<|ai @Lq<|ai @KV<|ai @Ga<|ai @ZQ<|ai @TA<|ai @Tz<|ai @Nf<|ai @SY<|ai @ud<|ai @Gw<|ai @Cl<|ai @Gx<|ai @LC<|@xk):=⟨@It,@He,@Iu,@aaU,@We,@U7.eq_1,@Lq,@KV,@Ga,@ZQ,@TA,@Tz,@Nf,@SY,@ud,@Gw,@Cl,@Gx,@LC,@xk⟩
end Go.Proofs.YtmcncjgbkobjnaaGreat.Am
namespace Go.Proofs.YtmcncjgbkobjnaaGreat.Am
open Go.RowKit Go.Proofs.YtmcncjgbkobjnaaGreat.P Go.Shelf Go.Lib
section
variable {P:Program}
end
end Go.Proofs.YtmcncjgbkobjnaaGreat.Am
namespace Go.Proofs.YtmcncjgbkobjnaaGreat.P
def UZ {α:Type} (c:α->α->Int) (x:α):List α->List α
 | []=>[x]
 | y::l=>if c x y<=0 then x::y::l else y::UZ c x l
end Go.Proofs.YtmcncjgbkobjnaaGreat.P
