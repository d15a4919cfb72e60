/- Part of a proof, made small by a program (wip/mini.py). -/
import Derived.Test.YtpkahnkoecbndaaGreatDoorVb
namespace Go.Proofs.YtpkahnkoecbndaaGreatDoor.Am
open Go.RowKit
set_option linter.unusedSimpArgs false
set_option linter.unusedVariables false
inductive W where
 | code (c:Code)
 | blk (id:Nat)
section
variable (T:Nat→Option Ty) (Γ:Env) (N F:Nat)
def da:List W→Kt→Kt
 | [],Q=>Q
 | .code c::ws,Q=>fun x t h e=>XC x (LH T Γ N F c t h e (da ws Q)) (da ws Q x t h e)
 | .blk id::ws,Q=>fun x t h e=>Rh id x t h e (da ws Q)
def kP (ops l:List Oper) (ws:List W) (Q:Kt) (t:Nat→D) (h:Nat→Option Row) (e:Nat):Prop :=
 CP T Γ N e ops l t h fun t h=>da T Γ N F ws Q .normal t h (e+1)
def kQ (ops l:List Oper) (ws:List W) (Q:Kt) (t:Nat→D) (h:Nat→Option Row) (e:Nat) (fs:List kj):Prop :=
 runK T Γ N e ops l t h fs fun t h fs=>Bv ops.toArray fs=true∧da T Γ N F ws Q .normal t h (e+1)
def oA (o:Oper) (ops l:List Oper) (ws:List W) (Q:Kt) (t:Nat→D) (h:Nat→Option Row) (e:Nat):Prop :=
 T2 T Γ e o t h fun t E=>kP T Γ N F ops l ws Q (eG t o.dst E.val) (bx h E.hw) e
def oB (o:Oper) (ops l:List Oper) (ws:List W) (Q:Kt) (t:Nat→D) (h:Nat→Option Row) (e:Nat) (fs:List kj):Prop :=
 T2 T Γ e o t h fun t E=>kQ T Γ N F ops l ws Q (eG t o.dst E.val) (bx h E.hw) e (fs++[⟨bZ o (ev t),E.hw.isEmpty⟩])
def uP (d:D) (g:Nat) (want:Bool) (o:Oper) (ops l:List Oper) (ws:List W) (Q:Kt) (t:Nat→D) (h:Nat→Option Row) (e:Nat):Prop :=
 wpS d t g (fun t=>if want then oA T Γ N F o ops l ws Q t h e else kP T Γ N F ops l ws Q (eG t o.dst .skp) h e) (fun t=>if want then kP T Γ N F ops l ws Q (eG t o.dst .skp) h e else oA T Γ N F o ops l ws Q t h e) (fun t=>kP T Γ N F ops l ws Q (eG t o.dst .skp) h e)
def uQ (d:D) (g:Nat) (want:Bool) (o:Oper) (ops l:List Oper) (ws:List W) (Q:Kt) (t:Nat→D) (h:Nat→Option Row) (e:Nat) (fs:List kj):Prop :=
 wpS d t g (fun t=>if want then oB T Γ N F o ops l ws Q t h e fs else kQ T Γ N F ops l ws Q (eG t o.dst .skp) h e (fs++[⟨[],true⟩])) (fun t=>if want then kQ T Γ N F ops l ws Q (eG t o.dst .skp) h e (fs++[⟨[],true⟩]) else oB T Γ N F o ops l ws Q t h e fs) (fun t=>kQ T Γ N F ops l ws Q (eG t o.dst .skp) h e (fs++[⟨[],true⟩]))
def vW (x:Option dL) (dst:Option Nat) (ops l:List Oper) (ws:List W) (Q:Kt) (t:Nat→D) (h:Nat→Option Row) (e:Nat):Prop :=
 tl x fun E=>kP T Γ N F ops l ws Q (eG t dst E.val) (bx h E.hw) e
def vX (x:Option dL) (dst:Option Nat) (ft:List Nat) (ops l:List Oper) (ws:List W) (Q:Kt) (t:Nat→D) (h:Nat→Option Row) (e:Nat) (fs:List kj):Prop :=
 tl x fun E=>kQ T Γ N F ops l ws Q (eG t dst E.val) (bx h E.hw) e (fs++[⟨ft,E.hw.isEmpty⟩])
def HV (d:D) (g:Nat) (x y:Code) (ws:List W) (Q:Kt) (t:Nat→D) (h:Nat→Option Row) (e:Nat):Prop :=
 Nv d t g (fun t=>da T Γ N F (.code x::ws) Q .normal t h e) (fun t=>da T Γ N F (.code y::ws) Q .normal t h e)
def SM (d:D) (g:Nat) (a b:Operand) (dst:Option Nat) (ops l:List Oper) (ws:List W) (Q:Kt) (t:Nat→D) (h:Nat→Option Row) (e:Nat):Prop :=
 Nv d t g (fun t=>kP T Γ N F ops l ws Q (eG t dst (ev t a)) h e) (fun t=>kP T Γ N F ops l ws Q (eG t dst (ev t b)) h e)
def SN (d:D) (g:Nat) (a b:Operand) (dst:Option Nat) (ops l:List Oper) (ws:List W) (Q:Kt) (t:Nat→D) (h:Nat→Option Row) (e:Nat) (fs:List kj):Prop :=
 Nv d t g (fun t=>kQ T Γ N F ops l ws Q (eG t dst (ev t a)) h e (fs++[⟨[],true⟩])) (fun t=>kQ T Γ N F ops l ws Q (eG t dst (ev t b)) h e (fs++[⟨[],true⟩]))
def OT (b:Code) (ws:List W) (Q:Kt) (t:Nat→D) (h:Nat→Option Row) (e:Nat):Prop:=LH T Γ N F (.loop b) t h e (da T Γ N F ws Q)
end
theorem Fq {n:Nat} (h:n≤1000000):n≤maxLen:=Nat.le_trans h (by decide)
theorem F0 {z:List D} : oe 0 z=[]:=Eq.trans rfl rfl
theorem FZ {n:Nat} {z:List D} : oe (n+1) z=z++oe n z:=by simp[oe,List.replicate_succ]
theorem Fe {N:Nat} : fits N none=true:=Eq.trans rfl rfl
theorem Ff {N i:Nat} : fits N (some i)=decide (i<N):=Eq.trans rfl rfl
def sN:List Oper→Nat→Nat
 | [],_=>0
 | o::_,0=>o.dst.getD 0
 | _::l,j+1=>sN l j
def wU:List Oper→Nat→Bool
 | [],_=>false
 | o::_,0=>o.dst.isSome
 | _::l,j+1=>wU l j
theorem Bp:∀(l:List Oper) (j:Nat),wU l j=true→(l[j]?).bind (·.dst)=some (sN l j)
 | [],j,h=>by simp[wU]at h
 | o::l,0,h=>by
  simp only[wU]at h
  simp only[List.getElem?_cons_zero,Option.bind_some,sN]
  cases hd:o.dst with
  | none=>rw[hd]at h;cases h
  | some d=>rfl
 | o::l,j+1,h=>by simpa [sN] using Bp l j h
theorem Br {d:Nat} {op:Op} {ty:Nat} {pos:String} {af:Array Edge} {gd:Option (Nat×Bool)} {l:List Oper} : sN (⟨some d,op,ty,pos,af,gd⟩::l) 0=d:=Eq.trans rfl rfl
theorem Bq {o:Oper} {l:List Oper} {j:Nat} : sN (o::l) (j+1)=sN l j:=Eq.trans rfl rfl
theorem B2 {d:Nat} {op:Op} {ty:Nat} {pos:String} {af:Array Edge} {gd:Option (Nat×Bool)} {l:List Oper} : wU (⟨some d,op,ty,pos,af,gd⟩::l) 0=true:=Eq.trans rfl rfl
theorem B1 {o:Oper} {l:List Oper} {j:Nat} : wU (o::l) (j+1)=wU l j:=Eq.trans rfl rfl
section
variable {dst:Option Nat} {ty:Nat} {pos:String} {af:Array Edge} {gd:Option (Nat×Bool)} {vs:Operand→D}
def w6 (vs:Operand→D):List Operand→List Nat
 | []=>[]
 | x::l=>nm (vs x)++w6 vs l
theorem eT (vs:Operand→D):∀l:List Operand,(l.flatMap fun x=>nm (vs x))=w6 vs l
 | []=>Eq.trans rfl rfl
 | x::l=>by rw[List.flatMap_cons,eT vs l];exact Eq.trans rfl rfl
theorem OJ:w6 vs []=[]:=Eq.trans rfl rfl
theorem KB {x:Operand} {l:List Operand} : w6 vs (x::l)=nm (vs x)++w6 vs l:=Eq.trans rfl rfl
theorem zI {o:BinOp} {tt z:Nat} {x y:Operand} : bZ ⟨dst,.binOp o tt x y z,ty,pos,af,gd⟩ vs=w6 vs [x,y]++dst.toList:=by rw[← eT];rfl
theorem C3 {o:UnOp} {tt:Nat} {x:Operand} : bZ ⟨dst,.unOp o tt x,ty,pos,af,gd⟩ vs=w6 vs [x]++dst.toList:=by rw[← eT];rfl
theorem xq {x:Operand} : bZ ⟨dst,.assign x,ty,pos,af,gd⟩ vs=w6 vs [x]++dst.toList:=by rw[← eT];rfl
theorem C2 {tt:Nat} {x:Operand} : bZ ⟨dst,.load tt x,ty,pos,af,gd⟩ vs=w6 vs [x]++dst.toList:=by rw[← eT];rfl
theorem zN {tt:Nat} {x y:Operand} : bZ ⟨dst,.store tt x y,ty,pos,af,gd⟩ vs=w6 vs [x,y]++dst.toList:=by rw[← eT];rfl
theorem tI {x:Operand} : bZ ⟨dst,.nilCheck x,ty,pos,af,gd⟩ vs=w6 vs [x]++dst.toList:=by rw[← eT];rfl
theorem rX {tt i:Nat} {x:Operand} : bZ ⟨dst,.fieldAddr tt x i,ty,pos,af,gd⟩ vs=w6 vs [x]++dst.toList:=by rw[← eT];rfl
theorem zK {tt i:Nat} {x:Operand} : bZ ⟨dst,.field tt x i,ty,pos,af,gd⟩ vs=w6 vs [x]++dst.toList:=by rw[← eT];rfl
theorem rY {tt:Nat} {x i:Operand} : bZ ⟨dst,.indexAddr tt x i,ty,pos,af,gd⟩ vs=w6 vs [x,i]++dst.toList:=by rw[← eT];rfl
theorem zL {tt:Nat} {x i:Operand} : bZ ⟨dst,.index tt x i,ty,pos,af,gd⟩ vs=w6 vs [x,i]++dst.toList:=by rw[← eT];rfl
theorem rZ {tt:Nat} {x y:Operand} : bZ ⟨dst,.makeSlice tt x y,ty,pos,af,gd⟩ vs=w6 vs [x,y]++dst.toList:=by rw[← eT];rfl
theorem zH {tt:Nat} : bZ ⟨dst,.alloc tt,ty,pos,af,gd⟩ vs=w6 vs []++dst.toList:=by rw[← eT];rfl
theorem Gg {tt:Nat} {x:Operand} : bZ ⟨dst,.box tt x,ty,pos,af,gd⟩ vs=w6 vs [x]++dst.toList:=by rw[← eT];rfl
theorem vv {tt:Nat} : bZ ⟨dst,.makeMap tt none,ty,pos,af,gd⟩ vs=w6 vs []++dst.toList:=by rw[← eT];rfl
theorem xt {tt:Nat} {m i:Operand} {ok:Bool} : bZ ⟨dst,.lookup tt m i ok,ty,pos,af,gd⟩ vs=w6 vs [m,i]++dst.toList:=by rw[← eT];rfl
theorem sa {tt:Nat} {m i x:Operand} : bZ ⟨dst,.mapUpdate tt m i x,ty,pos,af,gd⟩ vs=w6 vs [m,i,x]++dst.toList:=by rw[← eT];rfl
theorem xr {tt:Nat} {m i x:Operand} : bZ ⟨dst,.insert tt m i x,ty,pos,af,gd⟩ vs=w6 vs [m,i,x]++dst.toList:=by rw[← eT];rfl
theorem vt {a b:Nat} {x:Operand} : bZ ⟨dst,.convert a b x,ty,pos,af,gd⟩ vs=w6 vs [x]++dst.toList:=by rw[← eT];rfl
theorem vu {x:Operand} {i:Nat} : bZ ⟨dst,.extract x i,ty,pos,af,gd⟩ vs=w6 vs [x]++dst.toList:=by rw[← eT];rfl
theorem zJ {tt:Nat} {ps:List (Nat×Operand)} : bZ ⟨dst,.build tt ps.toArray,ty,pos,af,gd⟩ vs=w6 vs (ps.map (·.2))++dst.toList:=by rw[← eT];rfl
theorem pS {tt len:Nat} {ps:List (Nat×Operand)} : bZ ⟨dst,.buildSlice tt len ps.toArray,ty,pos,af,gd⟩ vs=w6 vs (ps.map (·.2))++dst.toList:=by rw[← eT];rfl
theorem zM {tt:Nat} {x:Operand} {lo hi mx:Option Operand} : bZ ⟨dst,.slice tt x lo hi mx,ty,pos,af,gd⟩ vs=w6 vs (x::(lo.toList++(hi.toList++mx.toList)))++dst.toList:=by
 rw[← eT];cases lo<;>cases hi<;>cases mx<;>rfl
theorem C1 {x:Operand} {l:List Operand} {tys:Array Nat} : bZ ⟨dst,.call ⟨.value x,l.toArray,tys⟩,ty,pos,af,gd⟩ vs=w6 vs (x::l)++dst.toList:=by
 rw[← eT];simp[bZ,Op.operands,Call.operands]
theorem vr {x:Builtin} {l:List Operand} {tys:Array Nat} : bZ ⟨dst,.call ⟨.builtin x,l.toArray,tys⟩,ty,pos,af,gd⟩ vs=w6 vs l++dst.toList:=by
 rw[← eT];simp[bZ,Op.operands,Call.operands]
end
section
variable {T:Nat→Option Ty} {ty e:Nat} {dst:Option Nat} {h:Nat→Option Row}
theorem NO {k:IntKind} {n:Int} : bS T ty e dst h (.int k n)=some ⟨.int k n,[]⟩:=Eq.trans rfl rfl
theorem Ic {b:Bool} : bS T ty e dst h (.bool b)=some ⟨.bool b,[]⟩:=Eq.trans rfl rfl
theorem NS {b:ByteArray} : bS T ty e dst h (.str b)=some ⟨.str b,[]⟩:=Eq.trans rfl rfl
theorem Re {tg:Bool} {n:Nat} {xs:List D} : bS T ty e dst h (.sl false tg n xs)=some ⟨.sl false tg n xs,[]⟩:=Eq.trans rfl rfl
theorem NR {x v o:Nat} : bS T ty e dst h (.ptr x v o)=some ⟨.ptr x v o,[]⟩:=Eq.trans rfl rfl
theorem Ra {xs:List D} : bS T ty e dst h (.ip xs)=some ⟨.ip xs,[]⟩:=Eq.trans rfl rfl
theorem NM {xs:List D} : bS T ty e dst h (.agg xs)=some ⟨.agg xs,[]⟩:=Eq.trans rfl rfl
theorem NT {xs:List D} : bS T ty e dst h (.tup xs)=some ⟨.tup xs,[]⟩:=Eq.trans rfl rfl
theorem Q9 {f:Nat} : bS T ty e dst h (.fn f)=some ⟨.fn f,[]⟩:=Eq.trans rfl rfl
theorem Rb {x v:Nat} : bS T ty e dst h (.mp x v)=some ⟨.mp x v,[]⟩:=Eq.trans rfl rfl
theorem NP {ks:List Int} {vs:List D} : bS T ty e dst h (.mpc ks vs)=some ⟨.mpc ks vs,[]⟩:=Eq.trans rfl rfl
theorem Rc {x v y:Nat} : bS T ty e dst h (.pm x v y)=some ⟨.pm x v y,[]⟩:=Eq.trans rfl rfl
theorem Ao {f kk:Nat} {xs:List D} : bS T ty e dst h (.clo f kk xs)=some ⟨.clo f kk xs,[]⟩:=Eq.trans rfl rfl
def V2 (b:Bool) (T:Nat→Option Ty) (ty e d:Nat) (h:Nat→Option Row) (x:D):Option dL:=if b then bS T ty e (some d) h x else gu h x
theorem Eh {d:Nat} {x:D} : V2 true T ty e d h x=bS T ty e (some d) h x:=Eq.trans rfl rfl
theorem AS {d:Nat} {x:D} : V2 false T ty e d h x=gu h x:=Eq.trans rfl rfl
theorem Vj {q:Nat→Bool} {d:Nat} {x:D} : pq T q ty e (some d) h x=V2 (q d) T ty e d h x:=Eq.trans rfl rfl
theorem NJ {k:IntKind} {n:Int} : gu h (.int k n)=some ⟨.int k n,[]⟩:=Eq.trans rfl rfl
theorem H5 {b:Bool} : gu h (.bool b)=some ⟨.bool b,[]⟩:=Eq.trans rfl rfl
theorem NK {b:ByteArray} : gu h (.str b)=some ⟨.str b,[]⟩:=Eq.trans rfl rfl
theorem NH {xs:List D} : gu h (.agg xs)=some ⟨.agg (xs.map canon),[]⟩:=Eq.trans rfl rfl
theorem Q3 {a b:Bool} {n:Nat} {xs:List D} : gu h (.sl a b n xs)=some ⟨.sl false false n xs,[]⟩:=Eq.trans rfl rfl
theorem NU:bS T ty e dst h .und=some ⟨.und,[]⟩:=Eq.trans rfl rfl
def Uj (e d y s o n:Nat) (r:Row):Bool→Option dL
 | true=>some ⟨.buf y r.v s o n,[]⟩
 | false=>some ⟨.buf d e s o n,[(y,none),(d,some { r with v:=e })]⟩
theorem AR {d y s o n:Nat} {r:Row} : Uj e d y s o n r false=some ⟨.buf d e s o n,[(y,none),(d,some { r with v:=e })]⟩:=Eq.trans rfl rfl
def V1 (e:Nat) (dst:Option Nat) (y s o n:Nat):Option Row→Option dL
 | some r=>match dst with|some d=>Uj e d y s o n r r.fz|none=>some ⟨.und,[]⟩
 | none=>some ⟨.und,[]⟩
theorem Ef {d y s o n:Nat} {r:Row} : V1 e (some d) y s o n (some r)=Uj e d y s o n r r.fz:=Eq.trans rfl rfl
theorem NN {d y v s o n:Nat} : bS T ty e (some d) h (.buf y v s o n)=V1 e (some d) y s o n (live h y v):=by
 simp only[bS]
 cases hl:live h y v with
 | none=>rfl
 | some r =>
  obtain⟨_,hv⟩:=bW hl
  simp only[V1]
  cases hz:r.fz<;>simp[Uj,hv,hz]
def Uk (e:Nat) (dst:Option Nat) (T:Nat→Option Ty):Option Ty→Option dL
 | some τ =>
  match dst with
  | some d=>match τ.ds with
   | .slice el=>match T el with|some φ=>some ⟨.buf d e φ.size 0 0,[(d,some ⟨e,el,[],false,true,false⟩)]⟩|none=>none
   | _=>none
  | none=>none
 | none=>none
theorem Eg {d el b c:Nat} {z:List Value} {q:Bool} {φ:Ty} (hφ:T el=some φ):Uk e (some d) T (some ⟨.slice el,b,c,z,q⟩)=some ⟨.buf d e φ.size 0 0,[(d,some ⟨e,el,[],false,true,false⟩)]⟩:=by simp only[Uk,hφ]
theorem NQ:bS T ty e dst h (.sl true true 0 [])=Uk e dst T (T ty):=by
 unfold bS Uk
 cases dst<;>cases T ty<;>rfl
end
def Wn (x:Option D):Option dL:=match x with|some d=>some ⟨d,[]⟩|none=>none
theorem KC (d:D):Wn (some d)=some ⟨d,[]⟩:=Eq.trans rfl rfl
def yw (x:Option Ty) (f:Ty→Option dL):Option dL:=match x with|some τ=>f τ|none=>none
theorem KN (τ:Ty) (f:Ty→Option dL):yw (some τ) f=f τ:=Eq.trans rfl rfl
def V5 (x:Option (List D×List Nat)) (h:Nat→Option Row) (ty d e:Nat):Option dL :=
 match x with
 | some (cs,fr)=>if fr.contains d=false then some ⟨.ptr d e 0,iC h fr++[(d,some ⟨e,ty,cs,false,false,false⟩)]⟩ else none
 | none=>none
theorem El (cs:List D) (fr:List Nat) (h:Nat→Option Row) (ty d e:Nat):V5 (some (cs,fr)) h ty d e=if fr.contains d=false then some ⟨.ptr d e 0,iC h fr++[(d,some ⟨e,ty,cs,false,false,false⟩)]⟩ else none:=Eq.trans rfl rfl
def UT (d e:Nat):Option Nat→D
 | some y =>.pm d e y
 | none =>.ptr d e 0
theorem FI {d e y:Nat} : UT d e (some y)=.pm d e y:=Eq.trans rfl rfl
theorem FH {d e:Nat} : UT d e none=.ptr d e 0:=Eq.trans rfl rfl
def AP (x:Option Ty) (ty d e:Nat) (y:Option Nat):Option dL :=
 match x with
 | some τ=>if (τ.zero.map pN).all a7 then some ⟨UT d e y,[(d,some ⟨e,ty,τ.zero.map pN,false,false,false⟩)]⟩ else none
 | none=>none
theorem yK (τ:Ty) (ty d e:Nat) (y:Option Nat):AP (some τ) ty d e y=if (τ.zero.map pN).all a7 then some ⟨UT d e y,[(d,some ⟨e,ty,τ.zero.map pN,false,false,false⟩)]⟩ else none:=Eq.trans rfl rfl
def Xo (T:Nat→Option Ty) (x:Option Ty) (ty e d:Nat):Option dL:=match x with|some τ=>nU T ty τ e d|none=>none
def Ry (x y:Option Ty) (d:D):Option dL :=
 match x,y,d with
 | some τ,some _,.int _ n=>(match τ.ds with | .int k=>some ⟨.int k (k.wrap n),[]⟩|_=>none)
 | _,_,_=>none
theorem EE (k:IntKind) (b c:Nat) (z:List Value) (q:Bool) (σ:Ty) (k':IntKind) (n:Int):Ry (some ⟨.int k,b,c,z,q⟩) (some σ) (.int k' n)=some ⟨.int k (k.wrap n),[]⟩:=Eq.trans rfl rfl
def Uy (d:D) (i:Nat):Option dL:=match d with | .tup xs=>(match xs[i]? with|some d=>some ⟨d,[]⟩|none=>none)|_=>none
theorem Jf (xs:List D) (i:Nat):Uy (.tup xs) i=Wn xs[i]?:=by simp only[Uy,Wn]
section
variable {T:Nat→Option Ty} {Γ:Env} {N F e:Nat} {ws:List W} {Q:Kt} {t:Nat→D} {h:Nat→Option Row}
theorem cP {x:Ex} : da T Γ N F [] Q x t h e=Q x t h e:=Eq.trans rfl rfl
theorem F9:da T Γ N F (.code .skip::ws) Q .normal t h e=da T Γ N F ws Q .normal t h e:=Eq.trans rfl rfl
theorem K4 {a b:Code} : da T Γ N F (.code (.seq a b)::ws) Q .normal t h e=da T Γ N F (.code a :: .code b::ws) Q .normal t h e:=Eq.trans rfl rfl
theorem K3:da T Γ N F (.code .ret::ws) Q .normal t h e=da T Γ N F ws Q .ret t h e:=Eq.trans rfl rfl
theorem F7 {id:Nat} : da T Γ N F (.code (.exit id)::ws) Q .normal t h e=da T Γ N F ws Q (.exit id) t h e:=Eq.trans rfl rfl
theorem CQ {id:Nat} {b:Code} : da T Γ N F (.code (.block id b)::ws) Q .normal t h e=da T Γ N F (.code b :: .blk id::ws) Q .normal t h e:=Eq.trans rfl rfl
theorem F8 {b:Code} : da T Γ N F (.code (.loop b)::ws) Q .normal t h e=OT T Γ N F b ws Q t h e:=Eq.trans rfl rfl
theorem bq {c:Code} : da T Γ N F (.code c::ws) Q .ret t h e=da T Γ N F ws Q .ret t h e:=Eq.trans rfl rfl
theorem bc {c:Code} {n:Nat} : da T Γ N F (.code c::ws) Q (.exit n) t h e=da T Γ N F ws Q (.exit n) t h e:=Eq.trans rfl rfl
theorem rU {id:Nat} : da T Γ N F (.blk id::ws) Q .normal t h e=da T Γ N F ws Q .normal t h e:=Eq.trans rfl rfl
theorem bC {id:Nat} : da T Γ N F (.blk id::ws) Q .ret t h e=da T Γ N F ws Q .ret t h e:=Eq.trans rfl rfl
theorem vn {id n:Nat} : da T Γ N F (.blk id::ws) Q (.exit n) t h e=if n=id then da T Γ N F ws Q .normal t h e else da T Γ N F ws Q (.exit n) t h e:=Eq.trans rfl rfl
theorem zD {i:Nat} {ops:List Oper} : da T Γ N F (.code (.region i ops.toArray false)::ws) Q .normal t h e=kP T Γ N F ops ops ws Q t h e:=Eq.trans rfl rfl
theorem CT {i:Nat} {ops:List Oper} : da T Γ N F (.code (.region i ops.toArray true)::ws) Q .normal t h e=kQ T Γ N F ops ops ws Q t h e []:=Eq.trans rfl rfl
theorem F6 {g:Nat} {x y:Code} : da T Γ N F (.code (.cond (.tmp g) x y)::ws) Q .normal t h e=HV T Γ N F (t g) g x y ws Q t h e:=Eq.trans rfl rfl
theorem CS {x y:Code} : da T Γ N F (.code (.cond (.const (.bool true)) x y)::ws) Q .normal t h e=da T Γ N F (.code x::ws) Q .normal t h e:=Eq.trans rfl rfl
theorem CR {x y:Code} : da T Γ N F (.code (.cond (.const (.bool false)) x y)::ws) Q .normal t h e=da T Γ N F (.code y::ws) Q .normal t h e:=Eq.trans rfl rfl
theorem Gj {g:Nat} {x y:Code} (hg:t g=.bool true):HV T Γ N F (.bool true) g x y ws Q t h e=da T Γ N F (.code x::ws) Q .normal t h e:=xw hg
theorem C5 {g:Nat} {x y:Code} (hg:t g=.bool false):HV T Γ N F (.bool false) g x y ws Q t h e=da T Γ N F (.code y::ws) Q .normal t h e:=uF hg
theorem QF {b:Bool} {g:Nat} {x y:Code} : HV T Γ N F (.bool b) g x y ws Q t h e=br b (da T Γ N F (.code x::ws) Q .normal (dW t g (.bool true)) h e) (da T Γ N F (.code y::ws) Q .normal (dW t g (.bool false)) h e):=by
 unfold HV;rw[T1];cases b<;>simp[br]
variable {ops l:List Oper} {dst:Option Nat} {op:Op} {ty:Nat} {pos:String} {af:Array Edge} {gd:Option (Nat×Bool)} {fs:List kj}
theorem K1:kP T Γ N F ops [] ws Q t h e=da T Γ N F ws Q .normal t h (e+1):=Eq.trans rfl rfl
theorem F4 (hf:fits N dst=true):kP T Γ N F ops (⟨dst,op,ty,pos,af,none⟩::l) ws Q t h e=oA T Γ N F ⟨dst,op,ty,pos,af,none⟩ ops l ws Q t h e:=by
 simp only[kP,CP,T4,hf,true_and,oA]
theorem CN {j:Nat} {want:Bool} (hf:fits N dst=true) (hj:wU ops j=true):kP T Γ N F ops (⟨dst,op,ty,pos,af,some (j,want)⟩::l) ws Q t h e=uP T Γ N F (t (sN ops j)) (sN ops j) want ⟨dst,op,ty,pos,af,none⟩ ops l ws Q t h e:=by
 simp only[kP,CP,T4,hf,true_and,Bp ops j hj,qQ,uP]
 cases want<;>rfl
theorem Lq {g:Nat} {want:Bool} {o:Oper} : uP T Γ N F .skp g want o ops l ws Q t h e=kP T Γ N F ops l ws Q (eG t o.dst .skp) h e:=Eq.trans rfl rfl
theorem Gk {g:Nat} {o:Oper} (hg:t g=.bool true):uP T Γ N F (.bool true) g true o ops l ws Q t h e=oA T Γ N F o ops l ws Q t h e:=(xz hg).trans (if_pos rfl)
theorem C6 {g:Nat} {o:Oper} (hg:t g=.bool false):uP T Γ N F (.bool false) g true o ops l ws Q t h e=kP T Γ N F ops l ws Q (eG t o.dst .skp) h e:=(uG hg).trans (if_pos rfl)
theorem C7 {g:Nat} {o:Oper} (hg:t g=.bool true):uP T Γ N F (.bool true) g false o ops l ws Q t h e=kP T Γ N F ops l ws Q (eG t o.dst .skp) h e:=(xz hg).trans (if_neg (by decide))
theorem zO {g:Nat} {o:Oper} (hg:t g=.bool false):uP T Γ N F (.bool false) g false o ops l ws Q t h e=oA T Γ N F o ops l ws Q t h e:=(uG hg).trans (if_neg (by decide))
theorem QG {b:Bool} {g:Nat} {o:Oper} : uP T Γ N F (.bool b) g true o ops l ws Q t h e=br b (oA T Γ N F o ops l ws Q (dW t g (.bool true)) h e) (kP T Γ N F ops l ws Q (eG (dW t g (.bool false)) o.dst .skp) h e):=by
 unfold uP;rw[xy];cases b<;>simp[br]
theorem Nl {b:Bool} {g:Nat} {o:Oper} : uP T Γ N F (.bool b) g false o ops l ws Q t h e=br b (kP T Γ N F ops l ws Q (eG (dW t g (.bool true)) o.dst .skp) h e) (oA T Γ N F o ops l ws Q (dW t g (.bool false)) h e):=by
 unfold uP;rw[xy];cases b<;>simp[br]
theorem K2:kQ T Γ N F ops [] ws Q t h e fs=(Bv ops.toArray fs=true∧da T Γ N F ws Q .normal t h (e+1)):=Eq.trans rfl rfl
theorem F5 (hf:fits N dst=true):kQ T Γ N F ops (⟨dst,op,ty,pos,af,none⟩::l) ws Q t h e fs=oB T Γ N F ⟨dst,op,ty,pos,af,none⟩ ops l ws Q t h e fs:=by
 simp only[kQ,runK,T4,hf,true_and,oB]
theorem CO {j:Nat} {want:Bool} (hf:fits N dst=true) (hj:wU ops j=true):kQ T Γ N F ops (⟨dst,op,ty,pos,af,some (j,want)⟩::l) ws Q t h e fs=uQ T Γ N F (t (sN ops j)) (sN ops j) want ⟨dst,op,ty,pos,af,none⟩ ops l ws Q t h e fs:=by
 simp only[kQ,runK,T4,hf,true_and,Bp ops j hj,qQ,uQ]
 cases want<;>rfl
theorem Lr {g:Nat} {want:Bool} {o:Oper} : uQ T Γ N F .skp g want o ops l ws Q t h e fs=kQ T Γ N F ops l ws Q (eG t o.dst .skp) h e (fs++[⟨[],true⟩]):=Eq.trans rfl rfl
theorem Gl {g:Nat} {o:Oper} (hg:t g=.bool true):uQ T Γ N F (.bool true) g true o ops l ws Q t h e fs=oB T Γ N F o ops l ws Q t h e fs:=(xz hg).trans (if_pos rfl)
theorem C9 {g:Nat} {o:Oper} (hg:t g=.bool false):uQ T Γ N F (.bool false) g true o ops l ws Q t h e fs=kQ T Γ N F ops l ws Q (eG t o.dst .skp) h e (fs++[⟨[],true⟩]):=(uG hg).trans (if_pos rfl)
theorem Da {g:Nat} {o:Oper} (hg:t g=.bool true):uQ T Γ N F (.bool true) g false o ops l ws Q t h e fs=kQ T Γ N F ops l ws Q (eG t o.dst .skp) h e (fs++[⟨[],true⟩]):=(xz hg).trans (if_neg (by decide))
theorem zP {g:Nat} {o:Oper} (hg:t g=.bool false):uQ T Γ N F (.bool false) g false o ops l ws Q t h e fs=oB T Γ N F o ops l ws Q t h e fs:=(uG hg).trans (if_neg (by decide))
theorem QH {b:Bool} {g:Nat} {o:Oper} : uQ T Γ N F (.bool b) g true o ops l ws Q t h e fs=br b (oB T Γ N F o ops l ws Q (dW t g (.bool true)) h e fs) (kQ T Γ N F ops l ws Q (eG (dW t g (.bool false)) o.dst .skp) h e (fs++[⟨[],true⟩])):=by
 unfold uQ;rw[xy];cases b<;>simp[br]
theorem Nn {b:Bool} {g:Nat} {o:Oper} : uQ T Γ N F (.bool b) g false o ops l ws Q t h e fs=br b (kQ T Γ N F ops l ws Q (eG (dW t g (.bool true)) o.dst .skp) h e (fs++[⟨[],true⟩])) (oB T Γ N F o ops l ws Q (dW t g (.bool false)) h e fs):=by
 unfold uQ;rw[xy];cases b<;>simp[br]
theorem Lg {d:D} {hw:List (Nat×Option Row)} : vW T Γ N F (some ⟨d,hw⟩) dst ops l ws Q t h e=kP T Γ N F ops l ws Q (eG t dst d) (bx h hw) e:=Eq.trans rfl rfl
theorem Lh {d:D} {hw:List (Nat×Option Row)} {ft:List Nat} : vX T Γ N F (some ⟨d,hw⟩) dst ft ops l ws Q t h e fs=kQ T Γ N F ops l ws Q (eG t dst d) (bx h hw) e (fs++[⟨ft,hw.isEmpty⟩]):=Eq.trans rfl rfl
theorem OX {c:Prop} [Decidable c] {E:dL} : vW T Γ N F (if c then some E else none) dst ops l ws Q t h e=(c∧vW T Γ N F (some E) dst ops l ws Q t h e):=by
 by_cases hc:c<;>simp[hc,vW,tl]
theorem OY {c:Prop} [Decidable c] {E:dL} {ft:List Nat} : vX T Γ N F (if c then some E else none) dst ft ops l ws Q t h e fs=(c∧vX T Γ N F (some E) dst ft ops l ws Q t h e fs):=by
 by_cases hc:c<;>simp[hc,vX,tl]
theorem Cv {g:Nat} {a b:Operand} (hg:t g=.bool true):SM T Γ N F (.bool true) g a b dst ops l ws Q t h e=kP T Γ N F ops l ws Q (eG t dst (ev t a)) h e:=xw hg
theorem zk {g:Nat} {a b:Operand} (hg:t g=.bool false):SM T Γ N F (.bool false) g a b dst ops l ws Q t h e=kP T Γ N F ops l ws Q (eG t dst (ev t b)) h e:=uF hg
theorem Cw {g:Nat} {a b:Operand} (hg:t g=.bool true):SN T Γ N F (.bool true) g a b dst ops l ws Q t h e fs=kQ T Γ N F ops l ws Q (eG t dst (ev t a)) h e (fs++[⟨[],true⟩]):=xw hg
theorem zl {g:Nat} {a b:Operand} (hg:t g=.bool false):SN T Γ N F (.bool false) g a b dst ops l ws Q t h e fs=kQ T Γ N F ops l ws Q (eG t dst (ev t b)) h e (fs++[⟨[],true⟩]):=uF hg
theorem IX {c:Nat} {a b:Operand} : oA T Γ N F ⟨dst,.pick (.tmp c) a b,ty,pos,af,gd⟩ ops l ws Q t h e=SM T Γ N F (t c) c a b dst ops l ws Q t h e:=Eq.trans rfl rfl
theorem I3 {c:Nat} {a b:Operand} : oB T Γ N F ⟨dst,.pick (.tmp c) a b,ty,pos,af,gd⟩ ops l ws Q t h e fs=SN T Γ N F (t c) c a b dst ops l ws Q t h e fs:=Eq.trans rfl rfl
theorem IW {x:Operand} : oA T Γ N F ⟨dst,.move x,ty,pos,af,gd⟩ ops l ws Q t h e=kP T Γ N F ops l ws Q (eG t dst (ev t x)) h e:=Eq.trans rfl rfl
theorem I2 {x:Operand} : oB T Γ N F ⟨dst,.move x,ty,pos,af,gd⟩ ops l ws Q t h e fs=kQ T Γ N F ops l ws Q (eG t dst (ev t x)) h e (fs++[⟨[],true⟩]):=Eq.trans rfl rfl
theorem dM {x:Option dL} (hp:∀c a b,op ≠ .pick c a b) (hx:lM T Γ e ⟨dst,op,ty,pos,af,gd⟩ (ev t) h=x):oA T Γ N F ⟨dst,op,ty,pos,af,gd⟩ ops l ws Q t h e=vW T Γ N F x dst ops l ws Q t h e:=by
 subst hx
 unfold oA vW T2
 cases op<;>first|rfl|exact absurd rfl (hp _ _ _)
theorem dN {x:Option dL} (hp:∀c a b,op ≠ .pick c a b) (hx:lM T Γ e ⟨dst,op,ty,pos,af,gd⟩ (ev t) h=x):oB T Γ N F ⟨dst,op,ty,pos,af,gd⟩ ops l ws Q t h e fs=vX T Γ N F x dst (bZ ⟨dst,op,ty,pos,af,gd⟩ (ev t)) ops l ws Q t h e fs:=by
 subst hx
 unfold oB vX T2
 cases op<;>first|rfl|exact absurd rfl (hp _ _ _)
theorem EG {o:BinOp} {tt z:Nat} {x y:Operand} : oA T Γ N F ⟨dst,.binOp o tt x y z,ty,pos,af,gd⟩ ops l ws Q t h e=vW T Γ N F (Wn (xU T tt o (ev t x) (ev t y))) dst ops l ws Q t h e:=dM (fun _ _ _ hh=>by cases hh) (by simp only[lM];first|rfl|(cases xU T tt o (ev t x) (ev t y)<;>rfl))
theorem EO {o:BinOp} {tt z:Nat} {x y:Operand} : oB T Γ N F ⟨dst,.binOp o tt x y z,ty,pos,af,gd⟩ ops l ws Q t h e fs=vX T Γ N F (Wn (xU T tt o (ev t x) (ev t y))) dst (bZ ⟨dst,.binOp o tt x y z,ty,pos,af,gd⟩ (ev t)) ops l ws Q t h e fs:=dN (fun _ _ _ hh=>by cases hh) (by simp only[lM];first|rfl|(cases xU T tt o (ev t x) (ev t y)<;>rfl))
theorem IY {o:UnOp} {tt:Nat} {x:Operand} : oA T Γ N F ⟨dst,.unOp o tt x,ty,pos,af,gd⟩ ops l ws Q t h e=vW T Γ N F (Wn (D7 o (ev t x))) dst ops l ws Q t h e:=dM (fun _ _ _ hh=>by cases hh) (by simp only[lM];first|rfl|(cases D7 o (ev t x)<;>rfl))
theorem I4 {o:UnOp} {tt:Nat} {x:Operand} : oB T Γ N F ⟨dst,.unOp o tt x,ty,pos,af,gd⟩ ops l ws Q t h e fs=vX T Γ N F (Wn (D7 o (ev t x))) dst (bZ ⟨dst,.unOp o tt x,ty,pos,af,gd⟩ (ev t)) ops l ws Q t h e fs:=dN (fun _ _ _ hh=>by cases hh) (by simp only[lM];first|rfl|(cases D7 o (ev t x)<;>rfl))
theorem Bg {x:Operand} : oA T Γ N F ⟨dst,.assign x,ty,pos,af,gd⟩ ops l ws Q t h e=vW T Γ N F (pq T Γ.own ty e dst h (ev t x)) dst ops l ws Q t h e:=dM (fun _ _ _ hh=>by cases hh) rfl
theorem Bj {x:Operand} : oB T Γ N F ⟨dst,.assign x,ty,pos,af,gd⟩ ops l ws Q t h e fs=vX T Γ N F (pq T Γ.own ty e dst h (ev t x)) dst (bZ ⟨dst,.assign x,ty,pos,af,gd⟩ (ev t)) ops l ws Q t h e fs:=dN (fun _ _ _ hh=>by cases hh) rfl
theorem wy {f:Nat} {first caps:List Operand} : oA T Γ N F ⟨dst,.makeFunc (.func f) first.toArray caps.toArray,ty,pos,af,gd⟩ ops l ws Q t h e=vW T Γ N F (if (first.map (ev t)++caps.map (ev t)).all iE then some ⟨.clo f first.length (first.map (ev t)++caps.map (ev t)),[]⟩ else none) dst ops l ws Q t h e:=dM (fun _ _ _ hh=>by cases hh) rfl
theorem wB {f:Nat} {first caps:List Operand} : oB T Γ N F ⟨dst,.makeFunc (.func f) first.toArray caps.toArray,ty,pos,af,gd⟩ ops l ws Q t h e fs=vX T Γ N F (if (first.map (ev t)++caps.map (ev t)).all iE then some ⟨.clo f first.length (first.map (ev t)++caps.map (ev t)),[]⟩ else none) dst (bZ ⟨dst,.makeFunc (.func f) first.toArray caps.toArray,ty,pos,af,gd⟩ (ev t)) ops l ws Q t h e fs:=dN (fun _ _ _ hh=>by cases hh) rfl
theorem IU {tt:Nat} {x:Operand} : oA T Γ N F ⟨dst,.load tt x,ty,pos,af,gd⟩ ops l ws Q t h e=vW T Γ N F (yw (T tt) fun τ=>l5 τ h (ev t x)) dst ops l ws Q t h e:=dM (fun _ _ _ hh=>by cases hh) (by simp only[lM];first|rfl|(cases T tt<;>rfl))
theorem I0 {tt:Nat} {x:Operand} : oB T Γ N F ⟨dst,.load tt x,ty,pos,af,gd⟩ ops l ws Q t h e fs=vX T Γ N F (yw (T tt) fun τ=>l5 τ h (ev t x)) dst (bZ ⟨dst,.load tt x,ty,pos,af,gd⟩ (ev t)) ops l ws Q t h e fs:=dN (fun _ _ _ hh=>by cases hh) (by simp only[lM];first|rfl|(cases T tt<;>rfl))
theorem EM {tt:Nat} {x y:Operand} : oA T Γ N F ⟨dst,.store tt x y,ty,pos,af,gd⟩ ops l ws Q t h e=vW T Γ N F (yw (T tt) fun τ=>cZ τ h (ev t x) (ev t y)) dst ops l ws Q t h e:=dM (fun _ _ _ hh=>by cases hh) (by simp only[lM];first|rfl|(cases T tt<;>rfl))
theorem EV {tt:Nat} {x y:Operand} : oB T Γ N F ⟨dst,.store tt x y,ty,pos,af,gd⟩ ops l ws Q t h e fs=vX T Γ N F (yw (T tt) fun τ=>cZ τ h (ev t x) (ev t y)) dst (bZ ⟨dst,.store tt x y,ty,pos,af,gd⟩ (ev t)) ops l ws Q t h e fs:=dN (fun _ _ _ hh=>by cases hh) (by simp only[lM];first|rfl|(cases T tt<;>rfl))
theorem wz {x:Operand} : oA T Γ N F ⟨dst,.nilCheck x,ty,pos,af,gd⟩ ops l ws Q t h e=vW T Γ N F (iP h (ev t x)) dst ops l ws Q t h e:=dM (fun _ _ _ hh=>by cases hh) rfl
theorem wC {x:Operand} : oB T Γ N F ⟨dst,.nilCheck x,ty,pos,af,gd⟩ ops l ws Q t h e fs=vX T Γ N F (iP h (ev t x)) dst (bZ ⟨dst,.nilCheck x,ty,pos,af,gd⟩ (ev t)) ops l ws Q t h e fs:=dN (fun _ _ _ hh=>by cases hh) rfl
theorem uS {tt i:Nat} {x:Operand} : oA T Γ N F ⟨dst,.fieldAddr tt x i,ty,pos,af,gd⟩ ops l ws Q t h e=vW T Γ N F (yw (T tt) fun τ=>dG T τ h i (ev t x)) dst ops l ws Q t h e:=dM (fun _ _ _ hh=>by cases hh) (by simp only[lM];first|rfl|(cases T tt<;>rfl))
theorem uW {tt i:Nat} {x:Operand} : oB T Γ N F ⟨dst,.fieldAddr tt x i,ty,pos,af,gd⟩ ops l ws Q t h e fs=vX T Γ N F (yw (T tt) fun τ=>dG T τ h i (ev t x)) dst (bZ ⟨dst,.fieldAddr tt x i,ty,pos,af,gd⟩ (ev t)) ops l ws Q t h e fs:=dN (fun _ _ _ hh=>by cases hh) (by simp only[lM];first|rfl|(cases T tt<;>rfl))
theorem EI {tt i:Nat} {x:Operand} : oA T Γ N F ⟨dst,.field tt x i,ty,pos,af,gd⟩ ops l ws Q t h e=vW T Γ N F (yw (T tt) fun τ=>ky T τ i (ev t x)) dst ops l ws Q t h e:=dM (fun _ _ _ hh=>by cases hh) (by simp only[lM];first|rfl|(cases T tt<;>rfl))
theorem ER {tt i:Nat} {x:Operand} : oB T Γ N F ⟨dst,.field tt x i,ty,pos,af,gd⟩ ops l ws Q t h e fs=vX T Γ N F (yw (T tt) fun τ=>ky T τ i (ev t x)) dst (bZ ⟨dst,.field tt x i,ty,pos,af,gd⟩ (ev t)) ops l ws Q t h e fs:=dN (fun _ _ _ hh=>by cases hh) (by simp only[lM];first|rfl|(cases T tt<;>rfl))
theorem uT {tt:Nat} {x i:Operand} : oA T Γ N F ⟨dst,.indexAddr tt x i,ty,pos,af,gd⟩ ops l ws Q t h e=vW T Γ N F (yw (T tt) fun τ=>bQ T τ h (ev t x) (ev t i)) dst ops l ws Q t h e:=dM (fun _ _ _ hh=>by cases hh) (by simp only[lM];first|rfl|(cases T tt<;>rfl))
theorem uX {tt:Nat} {x i:Operand} : oB T Γ N F ⟨dst,.indexAddr tt x i,ty,pos,af,gd⟩ ops l ws Q t h e fs=vX T Γ N F (yw (T tt) fun τ=>bQ T τ h (ev t x) (ev t i)) dst (bZ ⟨dst,.indexAddr tt x i,ty,pos,af,gd⟩ (ev t)) ops l ws Q t h e fs:=dN (fun _ _ _ hh=>by cases hh) (by simp only[lM];first|rfl|(cases T tt<;>rfl))
theorem EJ {tt:Nat} {x i:Operand} : oA T Γ N F ⟨dst,.index tt x i,ty,pos,af,gd⟩ ops l ws Q t h e=vW T Γ N F (yw (T tt) fun τ=>fA T τ (ev t x) (ev t i)) dst ops l ws Q t h e:=dM (fun _ _ _ hh=>by cases hh) (by simp only[lM];first|rfl|(cases T tt<;>rfl))
theorem ES {tt:Nat} {x i:Operand} : oB T Γ N F ⟨dst,.index tt x i,ty,pos,af,gd⟩ ops l ws Q t h e fs=vX T Γ N F (yw (T tt) fun τ=>fA T τ (ev t x) (ev t i)) dst (bZ ⟨dst,.index tt x i,ty,pos,af,gd⟩ (ev t)) ops l ws Q t h e fs:=dN (fun _ _ _ hh=>by cases hh) (by simp only[lM];first|rfl|(cases T tt<;>rfl))
theorem EK {tt:Nat} {x:Operand} {lo hi mx:Option Operand} : oA T Γ N F ⟨dst,.slice tt x lo hi mx,ty,pos,af,gd⟩ ops l ws Q t h e=vW T Γ N F (yw (T tt) fun τ=>cF T τ h (ev t x) (lo.map (ev t)) (hi.map (ev t)) (mx.map (ev t))) dst ops l ws Q t h e:=dM (fun _ _ _ hh=>by cases hh) (by simp only[lM];first|rfl|(cases T tt<;>rfl))
theorem ET {tt:Nat} {x:Operand} {lo hi mx:Option Operand} : oB T Γ N F ⟨dst,.slice tt x lo hi mx,ty,pos,af,gd⟩ ops l ws Q t h e fs=vX T Γ N F (yw (T tt) fun τ=>cF T τ h (ev t x) (lo.map (ev t)) (hi.map (ev t)) (mx.map (ev t))) dst (bZ ⟨dst,.slice tt x lo hi mx,ty,pos,af,gd⟩ (ev t)) ops l ws Q t h e fs:=dN (fun _ _ _ hh=>by cases hh) (by simp only[lM];first|rfl|(cases T tt<;>rfl))
theorem EH {tt:Nat} {ps:List (Nat×Operand)} : oA T Γ N F ⟨dst,.build tt ps.toArray,ty,pos,af,gd⟩ ops l ws Q t h e=vW T Γ N F (yw (T tt) fun τ=>nQ Γ.own T τ h dst (ps.map fun p=>(p.1,ev t p.2))) dst ops l ws Q t h e:=dM (fun _ _ _ hh=>by cases hh) (by simp only[lM];first|rfl|(cases T tt<;>rfl))
theorem EP {tt:Nat} {ps:List (Nat×Operand)} : oB T Γ N F ⟨dst,.build tt ps.toArray,ty,pos,af,gd⟩ ops l ws Q t h e fs=vX T Γ N F (yw (T tt) fun τ=>nQ Γ.own T τ h dst (ps.map fun p=>(p.1,ev t p.2))) dst (bZ ⟨dst,.build tt ps.toArray,ty,pos,af,gd⟩ (ev t)) ops l ws Q t h e fs:=dN (fun _ _ _ hh=>by cases hh) (by simp only[lM];first|rfl|(cases T tt<;>rfl))
theorem sK {tt len d:Nat} {ps:List (Nat×Operand)} : oA T Γ N F ⟨some d,.buildSlice tt len ps.toArray,ty,pos,af,gd⟩ ops l ws Q t h e=vW T Γ N F (yw (T tt) fun τ=>dF T τ h e d len (ps.map fun p=>(p.1,ev t p.2))) (some d) ops l ws Q t h e:=dM (fun _ _ _ hh=>by cases hh) (by simp only[lM];first|rfl|(cases T tt<;>rfl))
theorem sL {tt len d:Nat} {ps:List (Nat×Operand)} : oB T Γ N F ⟨some d,.buildSlice tt len ps.toArray,ty,pos,af,gd⟩ ops l ws Q t h e fs=vX T Γ N F (yw (T tt) fun τ=>dF T τ h e d len (ps.map fun p=>(p.1,ev t p.2))) (some d) (bZ ⟨some d,.buildSlice tt len ps.toArray,ty,pos,af,gd⟩ (ev t)) ops l ws Q t h e fs:=dN (fun _ _ _ hh=>by cases hh) (by simp only[lM];first|rfl|(cases T tt<;>rfl))
theorem uU {tt d:Nat} {x y:Operand} : oA T Γ N F ⟨some d,.makeSlice tt x y,ty,pos,af,gd⟩ ops l ws Q t h e=vW T Γ N F (yw (T tt) fun τ=>oC T τ e d (ev t x) (ev t y)) (some d) ops l ws Q t h e:=dM (fun _ _ _ hh=>by cases hh) (by simp only[lM];first|rfl|(cases T tt<;>rfl))
theorem uY {tt d:Nat} {x y:Operand} : oB T Γ N F ⟨some d,.makeSlice tt x y,ty,pos,af,gd⟩ ops l ws Q t h e fs=vX T Γ N F (yw (T tt) fun τ=>oC T τ e d (ev t x) (ev t y)) (some d) (bZ ⟨some d,.makeSlice tt x y,ty,pos,af,gd⟩ (ev t)) ops l ws Q t h e fs:=dN (fun _ _ _ hh=>by cases hh) (by simp only[lM];first|rfl|(cases T tt<;>rfl))
theorem EF {tt d:Nat} : oA T Γ N F ⟨some d,.alloc tt,ty,pos,af,gd⟩ ops l ws Q t h e=vW T Γ N F (AP (T tt) tt d e (Γ.hint d)) (some d) ops l ws Q t h e:=dM (fun _ _ _ hh=>by cases hh) (by simp only[lM];cases T tt with|none=>rfl|some τ=>(dsimp only[AP];cases Γ.hint d<;>rfl))
theorem EN {tt d:Nat} : oB T Γ N F ⟨some d,.alloc tt,ty,pos,af,gd⟩ ops l ws Q t h e fs=vX T Γ N F (AP (T tt) tt d e (Γ.hint d)) (some d) (bZ ⟨some d,.alloc tt,ty,pos,af,gd⟩ (ev t)) ops l ws Q t h e fs:=dN (fun _ _ _ hh=>by cases hh) (by simp only[lM];cases T tt with|none=>rfl|some τ=>(dsimp only[AP];cases Γ.hint d<;>rfl))
theorem yW {tt d:Nat} : oA T Γ N F ⟨some d,.makeMap tt none,ty,pos,af,gd⟩ ops l ws Q t h e=vW T Γ N F (Xo T (T tt) tt e d) (some d) ops l ws Q t h e:=dM (fun _ _ _ hh=>by cases hh) (by simp only[lM];first|rfl|(cases T tt<;>rfl))
theorem y3 {tt d:Nat} : oB T Γ N F ⟨some d,.makeMap tt none,ty,pos,af,gd⟩ ops l ws Q t h e fs=vX T Γ N F (Xo T (T tt) tt e d) (some d) (bZ ⟨some d,.makeMap tt none,ty,pos,af,gd⟩ (ev t)) ops l ws Q t h e fs:=dN (fun _ _ _ hh=>by cases hh) (by simp only[lM];first|rfl|(cases T tt<;>rfl))
theorem Bi {tt:Nat} {m i:Operand} {ok:Bool} : oA T Γ N F ⟨dst,.lookup tt m i ok,ty,pos,af,gd⟩ ops l ws Q t h e=vW T Γ N F (yw (T tt) fun τ=>ig T τ h (ev t m) (ev t i) ok) dst ops l ws Q t h e:=dM (fun _ _ _ hh=>by cases hh) (by simp only[lM];first|rfl|(cases T tt<;>rfl))
theorem Bl {tt:Nat} {m i:Operand} {ok:Bool} : oB T Γ N F ⟨dst,.lookup tt m i ok,ty,pos,af,gd⟩ ops l ws Q t h e fs=vX T Γ N F (yw (T tt) fun τ=>ig T τ h (ev t m) (ev t i) ok) dst (bZ ⟨dst,.lookup tt m i ok,ty,pos,af,gd⟩ (ev t)) ops l ws Q t h e fs:=dN (fun _ _ _ hh=>by cases hh) (by simp only[lM];first|rfl|(cases T tt<;>rfl))
theorem uV {tt:Nat} {m i x:Operand} : oA T Γ N F ⟨dst,.mapUpdate tt m i x,ty,pos,af,gd⟩ ops l ws Q t h e=vW T Γ N F (yw (T tt) fun τ=>dz T τ h (ev t m) (ev t i) (ev t x)) dst ops l ws Q t h e:=dM (fun _ _ _ hh=>by cases hh) (by simp only[lM];first|rfl|(cases T tt<;>rfl))
theorem uZ {tt:Nat} {m i x:Operand} : oB T Γ N F ⟨dst,.mapUpdate tt m i x,ty,pos,af,gd⟩ ops l ws Q t h e fs=vX T Γ N F (yw (T tt) fun τ=>dz T τ h (ev t m) (ev t i) (ev t x)) dst (bZ ⟨dst,.mapUpdate tt m i x,ty,pos,af,gd⟩ (ev t)) ops l ws Q t h e fs:=dN (fun _ _ _ hh=>by cases hh) (by simp only[lM];first|rfl|(cases T tt<;>rfl))
theorem Bh {tt:Nat} {m i x:Operand} : oA T Γ N F ⟨dst,.insert tt m i x,ty,pos,af,gd⟩ ops l ws Q t h e=vW T Γ N F (yw (T tt) fun τ=>dz T τ h (ev t m) (ev t i) (ev t x)) dst ops l ws Q t h e:=dM (fun _ _ _ hh=>by cases hh) (by simp only[lM];first|rfl|(cases T tt<;>rfl))
theorem Bk {tt:Nat} {m i x:Operand} : oB T Γ N F ⟨dst,.insert tt m i x,ty,pos,af,gd⟩ ops l ws Q t h e fs=vX T Γ N F (yw (T tt) fun τ=>dz T τ h (ev t m) (ev t i) (ev t x)) dst (bZ ⟨dst,.insert tt m i x,ty,pos,af,gd⟩ (ev t)) ops l ws Q t h e fs:=dN (fun _ _ _ hh=>by cases hh) (by simp only[lM];first|rfl|(cases T tt<;>rfl))
theorem Oe {tt d:Nat} {x:Operand} : oA T Γ N F ⟨some d,.box tt x,ty,pos,af,gd⟩ ops l ws Q t h e=vW T Γ N F (V5 (ec h (ev t x)) h tt d e) (some d) ops l ws Q t h e:=dM (fun _ _ _ hh=>by cases hh) (by simp only[lM];first|rfl|(cases ec h (ev t x)<;>rfl))
theorem Of {tt d:Nat} {x:Operand} : oB T Γ N F ⟨some d,.box tt x,ty,pos,af,gd⟩ ops l ws Q t h e fs=vX T Γ N F (V5 (ec h (ev t x)) h tt d e) (some d) (bZ ⟨some d,.box tt x,ty,pos,af,gd⟩ (ev t)) ops l ws Q t h e fs:=dN (fun _ _ _ hh=>by cases hh) (by simp only[lM];first|rfl|(cases ec h (ev t x)<;>rfl))
theorem yU {a b:Nat} {x:Operand} : oA T Γ N F ⟨dst,.convert a b x,ty,pos,af,gd⟩ ops l ws Q t h e=vW T Γ N F (Ry (T b) (T a) (ev t x)) dst ops l ws Q t h e:=dM (fun _ _ _ hh=>by cases hh) rfl
theorem yY {a b:Nat} {x:Operand} : oB T Γ N F ⟨dst,.convert a b x,ty,pos,af,gd⟩ ops l ws Q t h e fs=vX T Γ N F (Ry (T b) (T a) (ev t x)) dst (bZ ⟨dst,.convert a b x,ty,pos,af,gd⟩ (ev t)) ops l ws Q t h e fs:=dN (fun _ _ _ hh=>by cases hh) rfl
theorem yV {x:Nat} {i:Nat} : oA T Γ N F ⟨dst,.extract (.tmp x) i,ty,pos,af,gd⟩ ops l ws Q t h e=vW T Γ N F (Uy (t x) i) dst ops l ws Q t h e:=dM (fun _ _ _ hh=>by cases hh) rfl
theorem yZ {x:Nat} {i:Nat} : oB T Γ N F ⟨dst,.extract (.tmp x) i,ty,pos,af,gd⟩ ops l ws Q t h e fs=vX T Γ N F (Uy (t x) i) dst (bZ ⟨dst,.extract (.tmp x) i,ty,pos,af,gd⟩ (ev t)) ops l ws Q t h e fs:=dN (fun _ _ _ hh=>by cases hh) rfl
theorem IT {x:Operand} {Zo:List Operand} {tys:Array Nat} : oA T Γ N F ⟨dst,.call ⟨.value x,Zo.toArray,tys⟩,ty,pos,af,gd⟩ ops l ws Q t h e=vW T Γ N F (gn Γ h e dst (ev t x) (Zo.map (ev t))) dst ops l ws Q t h e:=dM (fun _ _ _ hh=>by cases hh) rfl
theorem IZ {x:Operand} {Zo:List Operand} {tys:Array Nat} : oB T Γ N F ⟨dst,.call ⟨.value x,Zo.toArray,tys⟩,ty,pos,af,gd⟩ ops l ws Q t h e fs=vX T Γ N F (gn Γ h e dst (ev t x) (Zo.map (ev t))) dst (bZ ⟨dst,.call ⟨.value x,Zo.toArray,tys⟩,ty,pos,af,gd⟩ (ev t)) ops l ws Q t h e fs:=dN (fun _ _ _ hh=>by cases hh) rfl
theorem yT {x:Builtin} {Zo:List Operand} {tys:List Nat} : oA T Γ N F ⟨dst,.call ⟨.builtin x,Zo.toArray,tys.toArray⟩,ty,pos,af,gd⟩ ops l ws Q t h e=vW T Γ N F (ct T h e dst x tys (Zo.map (ev t))) dst ops l ws Q t h e:=dM (fun _ _ _ hh=>by cases hh) rfl
theorem yX {x:Builtin} {Zo:List Operand} {tys:List Nat} : oB T Γ N F ⟨dst,.call ⟨.builtin x,Zo.toArray,tys.toArray⟩,ty,pos,af,gd⟩ ops l ws Q t h e fs=vX T Γ N F (ct T h e dst x tys (Zo.map (ev t))) dst (bZ ⟨dst,.call ⟨.builtin x,Zo.toArray,tys.toArray⟩,ty,pos,af,gd⟩ (ev t)) ops l ws Q t h e fs:=dN (fun _ _ _ hh=>by cases hh) rfl
theorem bX {o:Array Oper} {A:Prop} (h1:Bv o fs=true) (h2:A):Bv o fs=true∧A:=⟨h1,h2⟩
theorem an {b:Bool} {g:Nat} {x y:Code} (h1:b=true→da T Γ N F (.code x::ws) Q .normal (dW t g (.bool true)) h e) (h2:b=false→da T Γ N F (.code y::ws) Q .normal (dW t g (.bool false)) h e):HV T Γ N F (.bool b) g x y ws Q t h e:=by rw[QF];exact⟨h1,h2⟩
theorem bk {b:Bool} {g:Nat} {o:Oper} (h1:b=true→oA T Γ N F o ops l ws Q (dW t g (.bool true)) h e) (h2:b=false→kP T Γ N F ops l ws Q (eG (dW t g (.bool false)) o.dst .skp) h e):uP T Γ N F (.bool b) g true o ops l ws Q t h e:=by rw[QG];exact⟨h1,h2⟩
theorem aR {b:Bool} {g:Nat} {o:Oper} (h1:b=true→kP T Γ N F ops l ws Q (eG (dW t g (.bool true)) o.dst .skp) h e) (h2:b=false→oA T Γ N F o ops l ws Q (dW t g (.bool false)) h e):uP T Γ N F (.bool b) g false o ops l ws Q t h e:=by rw[Nl];exact⟨h1,h2⟩
theorem ji {b:Bool} {g:Nat} {o:Oper} (h1:b=true→oB T Γ N F o ops l ws Q (dW t g (.bool true)) h e fs) (h2:b=false→kQ T Γ N F ops l ws Q (eG (dW t g (.bool false)) o.dst .skp) h e (fs++[⟨[],true⟩])):uQ T Γ N F (.bool b) g true o ops l ws Q t h e fs:=by rw[QH];exact⟨h1,h2⟩
theorem TU {b:Bool} {g:Nat} {o:Oper} (h1:b=true→kQ T Γ N F ops l ws Q (eG (dW t g (.bool true)) o.dst .skp) h e (fs++[⟨[],true⟩])) (h2:b=false→oB T Γ N F o ops l ws Q (dW t g (.bool false)) h e fs):uQ T Γ N F (.bool b) g false o ops l ws Q t h e fs:=by rw[Nn];exact⟨h1,h2⟩
def Ux (mode:Mode) (T:Nat→Option Ty) (lent:Option (D×Row)) (rs:List ResultVar) (r:RK×Option Row):Kt:=fun x t h e=>Wb mode T lent rs x t h e r
theorem zc {mode:Mode} {lent:Option (D×Row)} {rs:List ResultVar} {r:RK×Option Row} : Ux mode T lent rs r .normal t h e=(gj mode T lent rs ⟨t,h,e⟩=some r):=Eq.trans rfl rfl
theorem cO {mode:Mode} {lent:Option (D×Row)} {rs:List ResultVar} {r:RK×Option Row} : Ux mode T lent rs r .ret t h e=(gj mode T lent rs ⟨t,h,e⟩=some r):=Eq.trans rfl rfl
theorem aw {mode:Mode} {fn:Func} {c:Code} {n:Nat} {rs:List ResultVar} {args:List D} {r:RK×Option Row} (hb:fn.body=some c) (hn:fn.ntmps=n) (hr:fn.results=rs.toArray) (hw:da T Γ n F [.code c] (Ux mode T none rs r) .normal (LR args) VO 0) (hpk:n≤1000000:=by exact Nat.le_of_ble_eq_true rfl):aS mode T Γ F fn none args=some r:=by
 refine T8 ?_ (by rw[hn];exact hpk)
 unfold YS
 rw[hb,hn,hr]
 exact hw
def Xz (r:Row) (i:Nat):Option Row:=if i=0 then some r else none
theorem K0 (r:Row) (i:Nat):Xz r i=if i=0 then some r else none:=Eq.trans rfl rfl
theorem oo {mode:Mode} {fn:Func} {c:Code} {n:Nat} {rs:List ResultVar} {d0:D} {ty:Nat} {cells:List D} {fz lst:Bool} {args:List D} {r:RK×Option Row} (hb:fn.body=some c) (hn:fn.ntmps=n) (hr:fn.results=rs.toArray)
  (hw:da T Γ n F [.code c] (Ux mode T (some (d0,⟨0,ty,cells,fz,lst,false⟩)) rs r) .normal (LR (d0::args)) (Xz ⟨0,ty,cells,fz,lst,false⟩) 1) (hpk:n≤1000000:=by exact Nat.le_of_ble_eq_true rfl):aS mode T Γ F fn (some (d0,⟨0,ty,cells,fz,lst,false⟩)) args=some r:=by
 refine T8 ?_ (by rw[hn];exact hpk)
 unfold YS
 rw[hb,hn,hr]
 exact hw
end
end Go.Proofs.YtpkahnkoecbndaaGreatDoor.Am
namespace Go.Proofs.YtpkahnkoecbndaaGreatDoor.P
open Go.RowKit
set_option linter.unusedSimpArgs false
set_option linter.unusedVariables false
def FU:Nat:=1000000000000000000000000
def l6 {σ ρ:Type} (body:σ→Option (σ⊕ρ)):Nat→σ→Option ρ
 | 0,_=>none
 | n+1,s =>
  match body s with
  | some (.inl s')=>l6 body n s'
  | some (.inr r)=>some r
  | none=>none
def a8 {σ ρ:Type} (body:σ→Option (σ⊕ρ)) (s:σ):Option ρ:=l6 body FU s
theorem Se {σ ρ:Type} {body:σ→Option (σ⊕ρ)} (I:σ→Prop) (μ:σ→Nat) (Q:ρ→Prop)
  (hstep:∀s,I s→(∃s',body s=some (.inl s')∧I s'∧μ s'<μ s)∨(∃r,body s=some (.inr r)∧Q r)):∀(n:Nat) (s:σ),I s→μ s<n→∃r,l6 body n s=some r∧Q r:=by
 intro n
 induction n with
 | zero=>intro s _ h;omega
 | succ n ih =>
  intro s hI hμ
  rcases hstep s hI with⟨s',h1,h2,h3⟩|⟨r,h1,h2⟩
  ·obtain⟨r,h4,h5⟩:=ih s' h2 (by omega)
   exact⟨r,by simp only[l6,h1];exact h4,h5⟩
  ·exact⟨r,by simp only[l6,h1],h2⟩
theorem eV {σ ρ:Type} {body:σ→Option (σ⊕ρ)} (I:σ→Prop) (μ:σ→Nat) (Q:ρ→Prop) {s:σ} (hI:I s) (hμ:μ s<FU)
  (hstep:∀s,I s→(∃s',body s=some (.inl s')∧I s'∧μ s'<μ s)∨(∃r,body s=some (.inr r)∧Q r)):∃r,a8 body s=some r∧Q r:=Se I μ Q hstep FU s hI hμ
def idx {α:Type} (l:List α) (i:Int):Option α:=if 0≤i∧i<l.length then l[i.toNat]? else none
def UX (s:ByteArray) (i:Int):Option Int:=if 0≤i then (s[i.toNat]?).map fun b=>(b.toNat:Int) else none
def CV {α:Type} (l:List α) (a b:Int):Option (List α):=if 0≤a∧a≤b∧b≤l.length then some ((l.drop a.toNat).take (b.toNat-a.toNat)) else none
def LG {α:Type} (bytes:Nat) (n c:Int) (z:α):Option (List α):=if 0≤n∧n≤c∧c≤maxLen∧c.toNat*bytes≤140737488355328 then some (List.replicate n.toNat z) else none
def iH {α:Type} (bytes:Nat) (l m:List α):Option (List α):=if l.length+m.length≤maxLen∧(l.length+m.length)*bytes≤140737488355328 then some (l++m) else none
def xV (k:IntKind) (x y:Int):Option Int:=if y=0 then none else some (k.wrap (x.tdiv y))
def tk (_:IntKind) (x y:Int):Option Int:=if y=0 then none else some (x.tmod y)
def D6 (k:IntKind) (x y:Int):Option Int:=if y<0 then none else some (k.wrap (x*2 ^ (min y.toNat k.bits)))
def yC (k:IntKind) (x y:Int):Option Int:=if y<0 then none else some (x.fdiv (2 ^ (min y.toNat k.bits)))
def nN (op:BinOp) (k:IntKind) (x y:Int):Int :=
 let a:=BitVec.ofInt k.bits x
 let b:=BitVec.ofInt k.bits y
 match op with
 | .and=>k.wrap (a &&& b).toNat
 | .or=>k.wrap (a ||| b).toNat
 | .xor=>k.wrap (a ^^^ b).toNat
 | _=>k.wrap (a &&& ~~~b).toNat
def UA {α:Type} : List (Int×α)→Int→Bool
 | [],_=>false
 | (k,_)::m,n=>k==n||UA m n
def fU (l:List Int):List Int:=l.mergeSort fun x y=>decide (x≤y)
theorem fm (l:List Int):(fU l).length=l.length:=List.length_mergeSort l
theorem yF:fU []=[]:=by simp[fU]
theorem ae {α β:Type} {o:Option α} {f:α→Option β} {r:β} (h:o.bind f=some r):∃a,o=some a∧f a=some r:=by
 cases o with
 | none=>cases h
 | some a=>exact⟨a,rfl,h⟩
theorem Xg {α:Type} {b:Bool} {x y r:α} (hb:b=true) (h:(if b=true then x else y)=r):x=r:=by rw[if_pos hb]at h;exact h
theorem Xf {α:Type} {b:Bool} {x y r:α} (hb:b=false) (h:(if b=true then x else y)=r):y=r:=by rw[hb]at h;simpa using h
theorem ai {a b:Prop} (x:a) (y:b):a∧b:=⟨x,y⟩
theorem sp {α:Type} {b:Bool} {P1 P2 Q:Prop} {x y r:α} (k:(b=true→P1)→(b=false→P2)→Q) (h:(if b=true then x else y)=r) (h1:b=true→x=r→P1) (h2:b=false→y=r→P2):Q:=k (fun hb=>h1 hb (Xg hb h)) fun hb=>h2 hb (Xf hb h)
end Go.Proofs.YtpkahnkoecbndaaGreatDoor.P
namespace Go.Proofs.YtpkahnkoecbndaaGreatDoor.Am
open Go.RowKit Go.Proofs.YtpkahnkoecbndaaGreatDoor.P
set_option linter.unusedSimpArgs false
set_option linter.unusedVariables false
structure jJ (α:Type) where
 cells:α→List D
 size:Nat
 len:∀x,(cells x).length=size
 pos:0<size
 inj:∀x y,cells x=cells y→x=y
def ab {α:Type} (e:jJ α):List α→List D
 | []=>[]
 | x::l=>e.cells x++ab e l
section
variable {α β:Type} (e:jJ α)
theorem wK:ab e []=[]:=rfl
theorem aM (x:α) (l:List α):ab e (x::l)=e.cells x++ab e l:=rfl
theorem fN:∀l m:List α,ab e (l++m)=ab e l++ab e m
 | [],m=>rfl
 | x::l,m=>by rw[List.cons_append,aM,aM,fN l m,List.append_assoc]
theorem cN:∀l:List α,(ab e l).length=l.length*e.size
 | []=>by simp[ab]
 | x::l=>by rw[aM,List.length_append,cN l,e.len,List.length_cons,Nat.succ_mul];omega
theorem tP:∀(l:List α) (i:Nat),(ab e l).drop (i*e.size)=ab e (l.drop i)
 | l,0=>by simp
 | [],i+1=>by simp[ab]
 | x::l,i+1=>by
  rw[aM,List.drop_succ_cons,← tP l i,List.drop_append,e.len,List.drop_eq_nil_of_le (by rw[e.len,Nat.succ_mul];omega),List.nil_append]
  congr 1
  rw[Nat.succ_mul];omega
theorem fl:∀(l:List α) (i:Nat),(ab e l).take (i*e.size)=ab e (l.take i)
 | l,0=>by simp[ab]
 | [],i+1=>by simp[ab]
 | x::l,i+1=>by
  rw[aM,List.take_succ_cons,aM,List.take_append,e.len,List.take_of_length_le (by rw[e.len,Nat.succ_mul];omega),← fl l i]
  congr 2
  rw[Nat.succ_mul];omega
theorem sU:∀l m:List α,ab e l=ab e m→l=m
 | [],[],_=>rfl
 | [],y::m,h=>by
  have:=congrArg List.length h
  have hp:=e.pos
  rw[aM,List.length_append,e.len]at this
  simp[ab]at this
  omega
 | x::l,[],h=>by
  have:=congrArg List.length h
  have hp:=e.pos
  rw[aM,List.length_append,e.len]at this
  simp[ab]at this
  omega
 | x::l,y::m,h=>by
  rw[aM,aM]at h
  obtain⟨h1,h2⟩:=List.append_inj h (by rw[e.len,e.len])
  rw[e.inj _ _ h1,sU l m h2]
theorem BE:∀(n:Nat) (x:α),oe n (e.cells x)=ab e (List.replicate n x)
 | 0,x=>by simp[oe,ab]
 | n+1,x=>by rw[List.replicate_succ,aM,← BE n x];simp[oe,List.replicate_succ]
end
def eI (k:IntKind):jJ Int:=⟨fun n=>[.int k n],1,fun _=>rfl,by decide,fun x y h=>by simpa using h⟩
def gr:jJ Bool:=⟨fun n=>[.bool n],1,fun _=>rfl,by decide,fun x y h=>by simpa using h⟩
def eU:jJ ByteArray:=⟨fun n=>[.str n],1,fun _=>rfl,by decide,fun x y h=>by simpa using h⟩
def rG {α:Type} (e:jJ α):jJ (List α):=⟨fun l=>[.sl false false l.length (ab e l)],1,fun _=>rfl,by decide,fun x y h=>by
 simp only[List.cons.injEq,D.sl.injEq,true_and,and_true]at h
 exact sU e _ _ h.2⟩
def kx {α β:Type} (e:jJ α) (f:jJ β):jJ (α×β):=⟨fun x=>e.cells x.1++f.cells x.2,e.size+f.size,fun x=>by rw[List.length_append,e.len,f.len],Nat.lt_of_lt_of_le e.pos (Nat.le_add_right _ _),fun x y h=>by
 obtain⟨h1,h2⟩:=List.append_inj h (by rw[e.len,e.len])
 exact Prod.ext (e.inj _ _ h1) (f.inj _ _ h2)⟩
def zW {α β:Type} (e:jJ β) (f:α→β) (hf:∀x y,f x=f y→x=y):jJ α:=⟨fun x=>e.cells (f x),e.size,fun x=>e.len _,e.pos,fun x y h=>hf _ _ (e.inj _ _ h)⟩
structure Arg (α:Type) where
 d:α→D
 inj:∀x y,d x=d y→x=y
def aI (k:IntKind):Arg Int:=⟨fun n =>.int k n,fun x y h=>by simpa using h⟩
def WX:Arg Bool:=⟨fun n =>.bool n,fun x y h=>by simpa using h⟩
def Ug:Arg ByteArray:=⟨fun n =>.str n,fun x y h=>by simpa using h⟩
def iG {α:Type} (e:jJ α):Arg (List α):=⟨fun l =>.sl false false l.length (ab e l),fun x y h=>by
 simp only[D.sl.injEq,true_and]at h
 exact sU e _ _ h.2⟩
def cR {α:Type} (e:jJ α):Arg α:=⟨fun x =>.agg (e.cells x),fun x y h=>e.inj _ _ (by simpa using h)⟩
theorem Yw (k:IntKind) (n:Int):(aI k).d n=.int k n:=Eq.trans rfl rfl
theorem VZ {α:Type} (e:jJ α) (x:α):(cR e).d x=.agg (e.cells x):=Eq.trans rfl rfl
theorem wD (k:IntKind) (n:Int):(eI k).cells n=[.int k n]:=Eq.trans rfl rfl
theorem y6 (n:Bool):gr.cells n=[.bool n]:=Eq.trans rfl rfl
theorem Bx (n:ByteArray):eU.cells n=[.str n]:=Eq.trans rfl rfl
theorem E0 {α:Type} (e:jJ α) (l:List α):(rG e).cells l=[.sl false false l.length (ab e l)]:=Eq.trans rfl rfl
structure mr (α:Type) where
 ds:α→List D
 inj:∀x y,ds x=ds y→x=y
def Ua:mr Unit:=⟨fun _=>[],fun _ _ _=>rfl⟩
def dK {α:Type} (a:Arg α):mr α:=⟨fun x=>[a.d x],fun x y h=>a.inj _ _ (by simpa using h)⟩
def dR {α β:Type} (a:Arg α) (b:mr β):mr (α×β):=⟨fun x=>a.d x.1::b.ds x.2,fun x y h=>by
 simp only[List.cons.injEq]at h
 exact Prod.ext (a.inj _ _ h.1) (b.inj _ _ h.2)⟩
noncomputable def eB {α β:Type} (A:mr α) (F:α→Option β) (R:β→RK):Option (D×Row)→List D→Option (RK×Option Row):=fun lent ds =>
 match lent with
 | none=>open Classical in if h:∃a,A.ds a=ds then (F (Classical.choose h)).map fun r=>(R r,none) else none
 | some _=>none
theorem aJ {α β:Type} (A:mr α) (F:α→Option β) (R:β→RK) (a:α):eB A F R none (A.ds a)=(F a).map fun r=>(R r,none):=by
 have h:∃b,A.ds b=A.ds a:=⟨a,rfl⟩
 simp only[eB]
 rw[dif_pos h,A.inj _ _ (Classical.choose_spec h)]
theorem pK {α β:Type} {A:mr α} {F:α→Option β} {R:β→RK} {lent:Option (D×Row)} {ds:List D} {rk:RK} {out:Option Row} (h:eB A F R lent ds=some (rk,out)):lent=none∧out=none∧∃a r,ds=A.ds a∧F a=some r∧rk=R r:=by
 unfold eB at h
 split at h
 ·split at h
  ·rename_i he
   rw[Option.map_eq_some_iff]at h
   obtain⟨r,h1,h2⟩:=h
   simp only[Prod.mk.injEq]at h2
   obtain⟨rfl,rfl⟩:=h2
   exact⟨rfl,rfl,_,r,(Classical.choose_spec he).symm,h1,rfl⟩
  ·cases h
 ·cases h
structure bN (P:Program) (f:FuncId) (G:Option (D×Row)→List D→Option (RK×Option Row)):Prop where
 calls:∀lent Zo rk out,G lent Zo=some (rk,out)→pe P f lent Zo rk out
 callable:gZ P f
theorem bN.of {P:Program} {T:Nat→Option Ty} {Γ:Env} (hT:k9 P T) (hΓ:bT P Γ) (hm:P.follows .mixedOrders=true) {α β:Type} {A:mr α} {F:α→Option β} {R:β→RK} {mode:Mode} {f:FuncId} {fn:Func} (hf:P.funcs[f]? = some fn) (hok:(match fn.body with|some c=>codeOk c|none=>true)=true)
  (hc:(fn.name == "runtime.NumGoroutine")=false∧fn.body.isNone=false) (hn:∀a,(A.ds a).length≤fn.ntmps) (h:∀a r,F a=some r→aS mode T Γ FU fn none (A.ds a)=some (R r,none)):bN P f (eB A F R) where
 calls lent Zo rk out hg:=by
  obtain⟨rfl,rfl,a,r,rfl,hr,rfl⟩:=pK hg
  exact ke hT hΓ hm hf hok (hn a) rfl (h a r hr)
 callable:=⟨fn,hf,hc⟩
theorem bT.add {P:Program} {Γ:Env} (hΓ:bT P Γ) {f:Nat} {G:Option (D×Row)→List D→Option (RK×Option Row)} (h:bN P f G) (l:Bool):bT P (Am.ext Γ f l G):=hΓ.ext h.calls h.callable
section
variable {T:Nat→Option Ty} {Γ:Env} {N e:Nat} {ws:List W} {Q:Kt} {t:Nat→D} {h:Nat→Option Row}
def LK {σ ρ:Type} (Rel:σ→(Nat→D)→(Nat→Option Row)→Nat→Prop) (RelX:ρ→Ex→(Nat→D)→(Nat→Option Row)→Nat→Prop) (c:σ⊕ρ):Kt:=fun x t h e =>
 match x with
 | .normal=>∃s',c=.inl s'∧Rel s' t h e
 | x=>∃o,c=.inr o∧RelX o x t h e
theorem iS {σ ρ:Type} {Rel:σ→(Nat→D)→(Nat→Option Row)→Nat→Prop} {RelX:ρ→Ex→(Nat→D)→(Nat→Option Row)→Nat→Prop} {s':σ} (k:Rel s' t h e):LK Rel RelX (.inl s') .normal t h e:=⟨s',rfl,k⟩
theorem ki {σ ρ:Type} {Rel:σ→(Nat→D)→(Nat→Option Row)→Nat→Prop} {RelX:ρ→Ex→(Nat→D)→(Nat→Option Row)→Nat→Prop} {o:ρ} {n:Nat} (k:RelX o (.exit n) t h e):LK Rel RelX (.inr o) (.exit n) t h e:=⟨o,rfl,k⟩
theorem ti {σ ρ:Type} {Rel:σ→(Nat→D)→(Nat→Option Row)→Nat→Prop} {RelX:ρ→Ex→(Nat→D)→(Nat→Option Row)→Nat→Prop} {o:ρ} (k:RelX o .ret t h e):LK Rel RelX (.inr o) .ret t h e:=⟨o,rfl,k⟩
theorem aB {σ ρ:Type} {body:σ→Option (σ⊕ρ)} {b:Code} (Rel:σ→(Nat→D)→(Nat→Option Row)→Nat→Prop) (RelX:ρ→Ex→(Nat→D)→(Nat→Option Row)→Nat→Prop) {s0:σ} {out:ρ} (hL:a8 body s0=some out) (h0:Rel s0 t h e)
  (hstep:∀s t h e,Rel s t h e→∀c,body s=some c→da T Γ N FU [.code b] (LK Rel RelX c) .normal t h e)
  (hexit:∀x t h e,RelX out x t h e→da T Γ N FU ws Q x t h e):OT T Γ N FU b ws Q t h e:=by
 have key:∀(n:Nat) (s:σ) (t:Nat→D) (h:Nat→Option Row) (e:Nat),Rel s t h e→l6 body n s=some out→∃x s',iter (gN T Γ N FU b) n ⟨t,h,e⟩=some (x,s')∧da T Γ N FU ws Q x s'.t s'.h s'.e:=by
  intro n
  induction n with
  | zero=>intro s t h e _ hi;cases hi
  | succ n ih =>
   intro s t h e hR hi
   simp only[l6]at hi
   cases hb:body s with
   | none=>rw[hb]at hi;cases hi
   | some c =>
    rw[hb]at hi
    obtain⟨x,s1,h1,h2⟩:=T7 _ _ _ _ _ (show LH T Γ N FU b t h e (LK Rel RelX c) from hstep s t h e hR c hb)
    simp only[iter,h1]
    cases x with
    | normal =>
     obtain⟨s',rfl,h4⟩:=h2
     exact ih s' s1.t s1.h s1.e h4 hi
    | exit m =>
     obtain⟨o,rfl,h4⟩:=h2
     simp only[Option.some.injEq]at hi
     subst hi
     exact⟨_,_,rfl,hexit _ _ _ _ h4⟩
    | ret =>
     obtain⟨o,rfl,h4⟩:=h2
     simp only[Option.some.injEq]at hi
     subst hi
     exact⟨_,_,rfl,hexit _ _ _ _ h4⟩
 exact key FU s0 t h e h0 hL
theorem xv {d:D} {g:Nat} {A B A' B':(Nat→D)→Prop} (hk:Nv d t g A B) (h1:∀t,A t→A' t) (h2:∀t,B t→B' t):Nv d t g A' B':=by
 cases d with
 | bool b=>exact⟨fun hb=>h1 _ (hk.1 hb),fun hb=>h2 _ (hk.2 hb)⟩
 | _=>exact hk
theorem De {d:D} {g:Nat} {A B S A' B' S':(Nat→D)→Prop} (hk:wpS d t g A B S) (h1:∀t,A t→A' t) (h2:∀t,B t→B' t) (h3:∀t,S t→S' t):wpS d t g A' B' S':=by
 unfold wpS at hk ⊢
 split at hk
 ·exact h3 _ hk
 ·exact xv hk h1 h2
theorem Co {α:Type} {x:Option α} {K K':α→Prop} (hk:tl x K) (h1:∀a,K a→K' a):tl x K':=by
 cases x with
 | none=>exact hk
 | some a=>exact h1 a hk
theorem LA {ops:List Oper} {gd:Option (Nat×Bool)} {A B A' B':(Nat→D)→Prop} (hk:T4 ops t gd A B) (h1:∀t,A t→A' t) (h2:∀t,B t→B' t):T4 ops t gd A' B':=by
 unfold T4 at hk ⊢
 split
 ·exact h1 _ hk
 ·rename_i j want
  refine Co hk fun g hg=>De hg ?_ ?_ h2
  ·intro t ht;cases want<;>simp_all
  ·intro t ht;cases want<;>simp_all
theorem xx {o:Oper} {K K':(Nat→D)→dL→Prop} (hk:T2 T Γ e o t h K) (h1:∀t E,K t E→K' t E):T2 T Γ e o t h K':=by
 unfold T2 at hk ⊢
 split
 ·rename_i ho
  rw[ho]at hk
  exact xv hk (fun _ h=>h1 _ _ h) (fun _ h=>h1 _ _ h)
 ·rename_i hne
  split at hk
  ·rename_i c a b ho;exact absurd ho (hne _ _ _)
  ·exact Co hk (fun _ h=>h1 _ _ h)
theorem uA {ops:List Oper} {K K':(Nat→D)→(Nat→Option Row)→Prop} (h1:∀t h,K t h→K' t h):∀(l:List Oper) (t:Nat→D) (h:Nat→Option Row),CP T Γ N e ops l t h K→CP T Γ N e ops l t h K'
 | [],t,h,hk=>h1 _ _ hk
 | o::l,t,h,hk=>by
  unfold CP at hk ⊢
  exact⟨hk.1,LA hk.2 (fun t ht=>xx ht fun t E hE=>uA h1 l _ _ hE) (fun t ht=>uA h1 l _ _ ht)⟩
theorem ux {ops:List Oper} {K K':(Nat→D)→(Nat→Option Row)→List kj→Prop} (h1:∀t h fs,K t h fs→K' t h fs):∀(l:List Oper) (t:Nat→D) (h:Nat→Option Row) (fs:List kj),runK T Γ N e ops l t h fs K→runK T Γ N e ops l t h fs K'
 | [],t,h,fs,hk=>h1 _ _ _ hk
 | o::l,t,h,fs,hk=>by
  unfold runK at hk ⊢
  exact⟨hk.1,LA hk.2 (fun t ht=>xx ht fun t E hE=>ux h1 l _ _ _ hE) (fun t ht=>ux h1 l _ _ _ ht)⟩
theorem T6 {ops:Array Oper} {draw:Bool} {K K':(Nat→D)→(Nat→Option Row)→Prop} (hk:Yi T Γ N ops draw t h e K) (h1:∀t h,K t h→K' t h):Yi T Γ N ops draw t h e K':=by
 unfold Yi at hk ⊢
 cases draw with
 | true=>exact ux (fun t h fs hh=>⟨hh.1,h1 _ _ hh.2⟩) _ _ _ _ hk
 | false=>exact uA h1 _ _ _ hk
theorem QM {F:Nat} : ∀(c:Code) (t:Nat→D) (h:Nat→Option Row) (e:Nat) (K K':Kt),LH T Γ N F c t h e K→(∀x t h e,K x t h e→K' x t h e)→LH T Γ N F c t h e K':=by
 intro c
 induction c with
 | skip=>intro t h e K K' hk hm;exact hm _ _ _ _ hk
 | region i ops draw=>intro t h e K K' hk hm;exact T6 hk fun t h hh=>hm _ _ _ _ hh
 | seq a b iha ihb =>
  intro t h e K K' hk hm
  refine iha _ _ _ _ _ hk fun x t h e hx =>?_
  cases x with
  | normal=>exact ihb _ _ _ _ _ hx hm
  | exit n=>exact hm _ _ _ _ hx
  | ret=>exact hm _ _ _ _ hx
 | cond c x y ihx ihy =>
  intro t h e K K' hk hm
  unfold LH at hk ⊢
  cases c with
  | tmp g=>exact xv hk (fun t ht=>ihx _ _ _ _ _ ht hm) (fun t ht=>ihy _ _ _ _ _ ht hm)
  | const v =>
   cases v with
   | bool b =>
    cases b with
    | true=>exact ihx _ _ _ _ _ hk hm
    | false=>exact ihy _ _ _ _ _ hk hm
   | _=>exact hk
  | _=>exact hk
 | block id b ih =>
  intro t h e K K' hk hm
  refine ih _ _ _ _ _ hk fun x t h e hx =>?_
  cases x with
  | normal=>exact hm _ _ _ _ hx
  | ret=>exact hm _ _ _ _ hx
  | exit n =>
   unfold Rh at hx ⊢
   simp only at hx ⊢
   split at hx
   ·rename_i hn;rw[if_pos hn];exact hm _ _ _ _ hx
   ·rename_i hn;rw[if_neg hn];exact hm _ _ _ _ hx
 | loop b ih =>
  intro t h e K K' hk hm
  obtain⟨x,s,h1,h2⟩:=hk
  exact⟨x,s,h1,hm _ _ _ _ h2⟩
 | exit id=>intro t h e K K' hk hm;exact hm _ _ _ _ hk
 | ret=>intro t h e K K' hk hm;exact hm _ _ _ _ hk
 | _=>intro t h e K K' hk;exact hk.elim
def CK {σ:Type} (J:σ→(Nat→D)→(Nat→Option Row)→Nat→Prop) (P:σ→Prop) (R:Kt):Kt:=fun x t h e =>
 match x with
 | .normal=>∃s,P s∧J s t h e
 | x=>R x t h e
theorem al {σ:Type} {J:σ→(Nat→D)→(Nat→Option Row)→Nat→Prop} {P:σ→Prop} {R:Kt} : CK J P R .normal t h e = ∃s,P s∧J s t h e:=Eq.trans rfl rfl
end
section
variable {h:Nat→Option Row}
theorem Ev {k:IntKind} {n:Int} : canon (.int k n)=.int k n:=Eq.trans rfl rfl
theorem Ba {b:Bool} : canon (.bool b)=.bool b:=Eq.trans rfl rfl
theorem Ey {b:ByteArray} : canon (.str b)=.str b:=Eq.trans rfl rfl
theorem Iu {a b:Bool} {n:Nat} {xs:List D} : canon (.sl a b n xs)=.sl false false n xs:=Eq.trans rfl rfl
theorem A7 {k:IntKind} {n:Int} : eX (.int k n)=.int k n:=Eq.trans rfl rfl
theorem yR {b:Bool} : eX (.bool b)=.bool b:=Eq.trans rfl rfl
theorem A9 {b:ByteArray} : eX (.str b)=.str b:=Eq.trans rfl rfl
theorem Eu {a b:Bool} {n:Nat} {xs:List D} : eX (.sl a b n xs)=.sl false false n xs:=Eq.trans rfl rfl
theorem A6 {xs:List D} : eX (.agg xs)=.agg (xs.map canon):=Eq.trans rfl rfl
def Up (x s o n:Nat):Option Row→Option (D×List Nat)
 | some r=>if o+n*s≤r.cells.length then some (.sl false false n ((r.cells.drop o).take (n*s)),[x]) else none
 | none=>none
theorem IF {x s o n:Nat} {r:Row} : Up x s o n (some r)=if o+n*s≤r.cells.length then some (.sl false false n ((r.cells.drop o).take (n*s)),[x]) else none:=Eq.trans rfl rfl
def W4 (x o:Nat):Option Row→Option (D×List Nat)
 | some r=>if o≤r.cells.length then some (.ip (r.cells.drop o),[x]) else none
 | none=>none
theorem IK {x o:Nat} {r:Row} : W4 x o (some r)=if o≤r.cells.length then some (.ip (r.cells.drop o),[x]) else none:=Eq.trans rfl rfl
theorem IB {k:IntKind} {n:Int} : b7 h (.int k n)=some (.int k n,[]):=Eq.trans rfl rfl
theorem EA {b:Bool} : b7 h (.bool b)=some (.bool b,[]):=Eq.trans rfl rfl
theorem IE {b:ByteArray} : b7 h (.str b)=some (.str b,[]):=Eq.trans rfl rfl
theorem N9 {a b:Bool} {n:Nat} {xs:List D} : b7 h (.sl a b n xs)=some (.sl false false n xs,[]):=Eq.trans rfl rfl
theorem Ix {xs:List D} : b7 h (.agg xs)=some (.agg (xs.map canon),[]):=Eq.trans rfl rfl
theorem N7 {xs:List D} : b7 h (.ip xs)=some (.ip xs,[]):=Eq.trans rfl rfl
theorem N6 {f:Nat} : b7 h (.fn f)=some (.fn f,[]):=Eq.trans rfl rfl
theorem Iz {x v s o n:Nat} : b7 h (.buf x v s o n)=Up x s o n (live h x v):=by
 simp only[b7,aT,dw]
 cases live h x v with
 | none=>rfl
 | some r=>by_cases hc:o+n*s≤r.cells.length<;>simp[Up,hc,canon]
theorem ID {x v o:Nat} : b7 h (.ptr x v o)=W4 x o (live h x v):=by
 simp only[b7,aT]
 cases live h x v with
 | none=>rfl
 | some r=>simp only[W4]
theorem RB {k:IntKind} {n:Int} : ec h (.int k n)=some ([.int k n],[]):=Eq.trans rfl rfl
theorem Od {b:Bool} : ec h (.bool b)=some ([.bool b],[]):=Eq.trans rfl rfl
theorem RD {b:ByteArray} : ec h (.str b)=some ([.str b],[]):=Eq.trans rfl rfl
theorem Vl {a b:Bool} {n:Nat} {xs:List D} : ec h (.sl a b n xs)=some ([.sl a b n xs],[]):=Eq.trans rfl rfl
theorem Rz {xs:List D} : ec h (.agg xs)=some (xs,[]):=Eq.trans rfl rfl
def YC:Option (D×List Nat)→Option (List D×List Nat)
 | some (d,fr)=>some ([d],fr)
 | none=>none
theorem IS {d:D} {fr:List Nat} : YC (some (d,fr))=some ([d],fr):=Eq.trans rfl rfl
theorem RA {x v s o n:Nat} : ec h (.buf x v s o n)=YC (Up x s o n (live h x v)):=by
 simp only[ec,dw]
 cases live h x v with
 | none=>rfl
 | some r=>by_cases hc:o+n*s≤r.cells.length<;>simp[Up,YC,hc]
def Yy (h:Nat→Option Row):Option (D×List Nat)→Option dL
 | some (d,fr)=>some ⟨d,iC h fr⟩
 | none=>none
theorem IH {d:D} {fr:List Nat} : Yy h (some (d,fr))=some ⟨d,iC h fr⟩:=Eq.trans rfl rfl
theorem NI {x v s o n:Nat} : gu h (.buf x v s o n)=Yy h (Up x s o n (live h x v)):=by
 simp only[gu,nO,dw]
 cases live h x v with
 | none=>rfl
 | some r=>by_cases hc:o+n*s≤r.cells.length<;>simp[Up,Yy,hc,canon,eX]
variable {Γ:Env} {f g e:Nat} {l:Bool} {G:Option (D×Row)→List D→Option (RK×Option Row)} {lent:Option (D×Row)} {Zo:List D} {dst:Option Nat} {fr:List Nat}
theorem Fb:(Am.ext Γ f l G).lends g=if g=f then l else Γ.lends g:=Eq.trans rfl rfl
theorem On:(Am.ext Γ f l G).sem g lent Zo=if g=f then G lent Zo else Γ.sem g lent Zo:=Eq.trans rfl rfl
theorem Om {d:Nat} : (Am.ext Γ f l G).own d=Γ.own d:=Eq.trans rfl rfl
theorem Fy {d:Nat} : aU.own d=true:=Eq.trans rfl rfl
theorem JP {d i:Nat} : (Am.keep d Γ).own i=(i != d&&Γ.own i):=Eq.trans rfl rfl
theorem Ca {d i:Nat} : (Am.keep d Γ).lends i=Γ.lends i:=Eq.trans rfl rfl
theorem JQ {d i:Nat} : (Am.keep d Γ).sem i lent Zo=Γ.sem i lent Zo:=Eq.trans rfl rfl
def Dk (lends:Bool) (Γ:Env) (h:Nat→Option Row) (e:Nat) (dst:Option Nat) (g:Nat) (args:List D):Option dL :=
 if lends then
  match args with
  | .buf x v s o n::rest=>rE Γ h e dst g x v (.buf 0 0 s o n) rest
  | .ptr x v o::rest=>rE Γ h e dst g x v (.ptr 0 0 o) rest
  | _=>none
 else sE Γ h e dst g args
def Un (p:Option (Nat×Nat×Nat)) (Γ:Env) (h:Nat→Option Row) (e:Nat) (dst:Option Nat) (g:Nat) (args:List D):Option dL :=
 match p with
 | some p=>rD h e dst p args
 | none =>
  match Γ.grw g with
  | some p=>rC h p args
  | none=>Dk (Γ.lends g) Γ h e dst g args
def V8 (p:Option Grow) (Γ:Env) (h:Nat→Option Row) (e:Nat) (dst:Option Nat) (g:Nat) (args:List D):Option dL :=
 match p with
 | some p=>rC h p args
 | none=>Dk (Γ.lends g) Γ h e dst g args
theorem Er {args:List D} : Un none Γ h e dst g args=V8 (Γ.grw g) Γ h e dst g args:=Eq.trans rfl rfl
theorem Eo {args:List D} : V8 none Γ h e dst g args=Dk (Γ.lends g) Γ h e dst g args:=Eq.trans rfl rfl
theorem Ep {p:Grow} {args:List D} : V8 (some p) Γ h e dst g args=rC h p args:=Eq.trans rfl rfl
theorem Oj {f:Nat} {l:Bool} {G:Option (D×Row)→List D→Option (RK×Option Row)} : (Am.ext Γ f l G).grw g=Γ.grw g:=Eq.trans rfl rfl
theorem JN {d:Nat} : (Am.keep d Γ).grw g=Γ.grw g:=Eq.trans rfl rfl
theorem JE {d y:Nat} : (Am.va d y Γ).grw g=Γ.grw g:=Eq.trans rfl rfl
theorem JI {f:Nat} {p:Nat×Nat×Nat} : (Am.B6 f p Γ).grw g=Γ.grw g:=Eq.trans rfl rfl
theorem Fw:aU.grw g=none:=Eq.trans rfl rfl
theorem Jz {f:Nat} {p:Grow} : (Am.yh f p Γ).grw g=if g=f then some p else Γ.grw g:=Eq.trans rfl rfl
theorem JA {f:Nat} {p:Grow} : (Am.yh f p Γ).ins g=Γ.ins g:=Eq.trans rfl rfl
theorem B0 {f:Nat} {p:Grow} : (Am.yh f p Γ).lends g=Γ.lends g:=Eq.trans rfl rfl
theorem JC {f:Nat} {p:Grow} {l:Option (D×Row)} {Zo:List D} : (Am.yh f p Γ).sem g l Zo=Γ.sem g l Zo:=Eq.trans rfl rfl
theorem JB {f:Nat} {p:Grow} {d:Nat} : (Am.yh f p Γ).own d=Γ.own d:=Eq.trans rfl rfl
theorem Fk {f:Nat} {p:Grow} {d:Nat} : (Am.yh f p Γ).hint d=Γ.hint d:=Eq.trans rfl rfl
def Yq (v:Nat):Option Row→Option (Row×Nat×Nat×Nat)
 | some r=>if r.v=v∧r.mp=true then (match r.cells with | [.ph y s n]=>some (r,y,s,n)|_=>none) else none
 | none=>none
theorem J0 {x v:Nat} : j7 h x v=Yq v (h x):=by
 unfold j7 Yq
 cases h x<;>rfl
theorem J3 {v ty y s n:Nat} {fz lst:Bool} : Yq v (some ⟨v,ty,[.ph y s n],fz,lst,true⟩)=some (⟨v,ty,[.ph y s n],fz,lst,true⟩,y,s,n):=by simp[Yq]
def Rj (p:Grow) (y k:Nat) (rest:List D):Option (Row×Nat×Nat×Nat)→Option Row→Option dL
 | some (ry,k',s,n),some r =>
   if k'=k∧k=PK+y∧ry.fz=false∧r.mp=false∧r.fz=false∧r.lst=true∧s=p.k∧r.ty=p.ty∧r.cells.length=n*p.k∧(n+1)*p.bytes≤140737488355328 then
    match p.sem r.cells rest with
    | some cs=>some ⟨.int .i64 (n:Int),[(k,some ⟨r.v,p.ty,r.cells++cs,false,true,false⟩),(y,some ⟨ry.v,ry.ty,[.ph k p.k (n+1)],false,false,true⟩)]⟩
    | none=>none
   else none
 | _,_=>none
theorem NY {p:Grow} {y v k:Nat} {rest:List D} : rC h p (.pm y v k::rest)=Rj p y k rest (j7 h y v) (h k):=Eq.trans rfl rfl
def Vk (k y v ty e' ty' k' n:Nat) (cells:List D):Option (List D)→Option dL
 | some cs=>some ⟨.int .i64 (n:Int),[(k,some ⟨e',ty',cells++cs,false,true,false⟩),(y,some ⟨v,ty,[.ph k k' (n+1)],false,false,true⟩)]⟩
 | none=>none
theorem AY {ty' k' by_:Nat} {sem:List D→List D→Option (List D)} {y k:Nat} {rest:List D} {v ty s n e' tyr:Nat} {cells:List D} : Rj ⟨ty',k',by_,sem⟩ y k rest (some (⟨v,ty,[.ph k s n],false,false,true⟩,k,s,n)) (some ⟨e',tyr,cells,false,true,false⟩) =
  if k=1000000+y∧s=k'∧tyr=ty'∧cells.length=n*k'∧(n+1)*by_≤140737488355328 then Vk k y v ty e' ty' k' n cells (sem cells rest) else none:=by
 simp only[Rj,PK,true_and]
 cases sem cells rest<;>rfl
theorem AZ {k y v ty e' ty' k' n:Nat} {cells cs:List D} : Vk k y v ty e' ty' k' n cells (some cs)=some ⟨.int .i64 (n:Int),[(k,some ⟨e',ty',cells++cs,false,true,false⟩),(y,some ⟨v,ty,[.ph k k' (n+1)],false,false,true⟩)]⟩:=Eq.trans rfl rfl
theorem Es {p:Nat×Nat×Nat} {args:List D} : Un (some p) Γ h e dst g args=rD h e dst p args:=Eq.trans rfl rfl
theorem Ol {f:Nat} {l:Bool} {G:Option (D×Row)→List D→Option (RK×Option Row)} : (Am.ext Γ f l G).ins g=Γ.ins g:=Eq.trans rfl rfl
theorem JO {d:Nat} : (Am.keep d Γ).ins g=Γ.ins g:=Eq.trans rfl rfl
theorem JF {d y:Nat} : (Am.va d y Γ).ins g=Γ.ins g:=Eq.trans rfl rfl
theorem Fx:aU.ins g=none:=Eq.trans rfl rfl
theorem JJ {f:Nat} {p:Nat×Nat×Nat} : (Am.B6 f p Γ).ins g=if g=f then some p else Γ.ins g:=Eq.trans rfl rfl
theorem B7 {f:Nat} {p:Nat×Nat×Nat} : (Am.B6 f p Γ).lends g=Γ.lends g:=Eq.trans rfl rfl
theorem JL {f:Nat} {p:Nat×Nat×Nat} {l:Option (D×Row)} {Zo:List D} : (Am.B6 f p Γ).sem g l Zo=Γ.sem g l Zo:=Eq.trans rfl rfl
theorem JK {f:Nat} {p:Nat×Nat×Nat} {d:Nat} : (Am.B6 f p Γ).own d=Γ.own d:=Eq.trans rfl rfl
theorem Fo {f:Nat} {p:Nat×Nat×Nat} {d:Nat} : (Am.B6 f p Γ).hint d=Γ.hint d:=Eq.trans rfl rfl
def Rk (ty k by_ x y s s' o o' n m:Nat) (i:Int) (e:Nat) (d:Nat):Option Row→Option Row→Option dL
 | some r,some r' =>
   if r.fz=false∧r'.fz=false∧r.lst=true∧r'.lst=true∧x≠y∧s=k∧s'=k∧r.ty=ty∧r'.ty=ty∧o=0∧o'=0∧r.cells.length=n*k∧r'.cells.length=m*k∧0≤i∧i≤n∧0<m∧(n+m)*by_≤140737488355328 then
    some ⟨.buf d e k 0 (n+m),[(y,none),(x,none),(d,some ⟨e,ty,r.cells.take (i.toNat*k)++(r'.cells++r.cells.drop (i.toNat*k)),false,true,false⟩)]⟩
   else none
 | _,_=>none
theorem NZ {ty k by_ x v s o n y v' s' o' m d:Nat} {i:Int} : rD h e (some d) (ty,k,by_) [.buf x v s o n,.int .i64 i,.buf y v' s' o' m]=Rk ty k by_ x y s s' o o' n m i e d (live h x v) (live h y v'):=by
 simp only[rD,Rk]
 cases live h x v with
 | none=>rfl
 | some r=>cases live h y v'<;>rfl
theorem A0 {ty k by_ x y s s' o o' n m : Nat} {i : Int} {d : Nat} {r r' : Row} : Rk ty k by_ x y s s' o o' n m i e d (some r) (some r') = if r.fz = false ∧ r'.fz = false ∧ r.lst = true ∧ r'.lst = true ∧ x ≠ y ∧ s = k ∧ s' = k ∧ r.ty = ty ∧ r'.ty = ty ∧ o = 0 ∧ o' = 0 ∧ r.cells.length = n * k ∧ r'.cells.length = m * k ∧ 0 ≤ i ∧ i ≤ n ∧ 0 < m ∧ (n + m) * by_ ≤ 140737488355328 then
        some ⟨.buf d e k 0 (n + m), [(y, none), (x, none), (d, some ⟨e, ty, r.cells.take (i.toNat * k) ++ (r'.cells ++ r.cells.drop (i.toNat * k)), false, true, false⟩)]⟩
      else none := Eq.trans rfl rfl
theorem N0 {args:List D} : gn Γ h e dst (.fn g) args=Un (Γ.ins g) Γ h e dst g args:=by
 simp only[gn,Un,Dk]
 cases Γ.ins g with
 | none=>cases Γ.grw g<;>rfl
 | some p=>rfl
def PA (h:Nat→Option Row) (e:Nat) (dst:Option Nat) (fr:List Nat):Option (RK×Option Row)→Option dL
 | some (.clean r,_)=>some ⟨r,if fE r then [] else iC h fr⟩
 | some (.fresh ty s n cells,_) =>
  match dst with
  | some d=>if fr.contains d=false then some ⟨.buf d e s 0 n,(if nX cells then [] else iC h fr)++[(d,some ⟨e,ty,cells,false,true,false⟩)]⟩ else none
  | none=>none
 | _=>none
def V7 (Γ:Env) (h:Nat→Option Row) (e:Nat) (dst:Option Nat) (g:Nat):Option (List D×List Nat)→Option dL
 | some (Zo,fr)=>PA h e dst fr (Γ.sem g none Zo)
 | none=>none
theorem Et {args:List D} : Dk false Γ h e dst g args=V7 Γ h e dst g (cn h args):=by
 simp only[Dk,Bool.false_eq_true,if_false,sE,V7]
 cases cn h args with
 | none=>rfl
 | some p =>
  obtain⟨Zo,fr⟩:=p
  simp only
  cases hs:Γ.sem g none Zo with
  | none=>rfl
  | some q =>
   obtain⟨rk,o⟩:=q
   cases rk<;>rfl
theorem En:V7 Γ h e dst g (some (Zo,fr))=PA h e dst fr (Γ.sem g none Zo):=Eq.trans rfl rfl
def R0 (h:Nat→Option Row) (fr:List Nat):Bool→List (Nat×Option Row)
 | true=>[]
 | false=>iC h fr
theorem Fj:R0 h fr true=[]:=Eq.trans rfl rfl
theorem BQ:R0 h fr false=iC h fr:=Eq.trans rfl rfl
theorem Jj {b:Bool} : R0 h [] b=[]:=by cases b<;>rfl
theorem A4 {r:D} {o:Option Row} : PA h e dst fr (some (.clean r,o))=some ⟨r,R0 h fr (fE r)⟩:=by
 simp only[PA]
 cases fE r<;>rfl
theorem Oo:iC h []=[]:=Eq.trans rfl rfl
theorem Jk {x:Nat} : iC h (x::fr)=(x,(h x).map pH)::iC h fr:=Eq.trans rfl rfl
theorem R4 {v ty:Nat} {cells:List D} {lst mp:Bool} : pH ⟨v,ty,cells,true,lst,mp⟩=⟨v,ty,cells,true,lst,mp⟩:=Eq.trans rfl rfl
theorem R2 {v ty:Nat} {cells:List D} {lst mp:Bool} : pH ⟨v,ty,cells,false,lst,mp⟩=⟨v,ty,cells,true,true,mp⟩:=Eq.trans rfl rfl
theorem EB:cn h []=some ([],[]):=Eq.trans rfl rfl
def Yx (p:Option (D×List Nat)) (q:Option (List D×List Nat)):Option (List D×List Nat) :=
 match p,q with
 | some (d',fr),some (ds',fr')=>some (d'::ds',fr++fr')
 | _,_=>none
theorem Ih {d:D} {fr fr':List Nat} {ds:List D} : Yx (some (d,fr)) (some (ds,fr'))=some (d::ds,fr++fr'):=Eq.trans rfl rfl
theorem Bb {d:D} {ds:List D} : cn h (d::ds)=Yx (b7 h d) (cn h ds):=by
 simp only[cn]
 cases b7 h d with
 | none=>rfl
 | some p=>cases cn h ds<;>rfl
variable {T:Nat→Option Ty} {s:St} {rs:List ResultVar} {r:ResultVar}
theorem KY:vT T s []=some ([],[]):=Eq.trans rfl rfl
theorem F3:vT T s (r::rs)=Yx (KW T s r) (vT T s rs):=by
 simp only[vT]
 cases KW T s r with
 | none=>rfl
 | some p=>cases vT T s rs<;>rfl
theorem KX {t:Nat→D} {i:Nat} : KW T ⟨t,h,e⟩ (.tmp i)=b7 h (t i):=Eq.trans rfl rfl
def Wr (T:Nat→Option Ty) (h:Nat→Option Row) (d:D) (τ:Option Ty):Option (D×List Nat) :=
 match τ,d with
 | some τ,.ptr x v o=>match dy τ h (.ptr x v o) with|some E=>some (eX E.val,[])|none=>none
 | _,_=>none
theorem F1 {t:Nat→D} {i ty:Nat} : KW T ⟨t,h,e⟩ (.cell i ty)=Wr T h (t i) (T ty):=Eq.trans rfl rfl
def Ws:Option dL→Option (D×List Nat)
 | some E=>some (eX E.val,[])
 | none=>none
theorem F2 {d:D} {w:List (Nat×Option Row)} : Ws (some ⟨d,w⟩)=some (eX d,[]):=Eq.trans rfl rfl
theorem KV {τ:Ty} {x v o:Nat} : Wr T h (.ptr x v o) (some τ)=Ws (dy τ h (.ptr x v o)):=by
 simp only[Wr,Ws]
def Wa (p:Option (List D×List Nat)):Option (RK×Option Row) :=
 match p with
 | some (ds,_)=>some (.clean (pA ds),none)
 | none=>none
theorem E3 {ds:List D} {fr:List Nat} : Wa (some (ds,fr))=some (.clean (pA ds),none):=Eq.trans rfl rfl
theorem BF:gj .clean T none rs s=Wa (vT T s rs):=by
 simp only[gj,sV,kC,UN,Wa]
 cases vT T s rs<;>rfl
theorem A5 {ty sz n d:Nat} {cells:List D} {o:Option Row} : PA h e (some d) fr (some (.fresh ty sz n cells,o))=if fr.contains d=false then some ⟨.buf d e sz 0 n,R0 h fr (nX cells)++[(d,some ⟨e,ty,cells,false,true,false⟩)]⟩ else none:=by
 simp only[PA]
 cases nX cells<;>rfl
theorem yb {k:IntKind} : ∀l:List Int,nX (ab (eI k) l)=true
 | []=>rfl
 | x::l=>by
  have:=yb (k:=k) l
  simp only[aM,wD,List.cons_append,List.nil_append,nX,fE,this,Bool.and_self]
theorem BG {ty sz i:Nat} {t:Nat→D} : gj (.fresh ty sz) T none [.tmp i] ⟨t,h,e⟩=lq ty sz h (t i):=Eq.trans rfl rfl
theorem BH {i:Nat} {t:Nat→D} : gj .tight T none [.tmp i] ⟨t,h,e⟩=tR (t i):=Eq.trans rfl rfl
theorem RV {nl tg:Bool} {n:Nat} {xs:List D} : tR (.sl nl tg n xs)=some (.clean (.sl nl tg n xs),none):=Eq.trans rfl rfl
theorem Oh {ty sz x v o n:Nat} : lq ty sz h (.buf x v sz o n)=tQ ty sz o n (live h x v):=by simp[lq]
theorem RS {ty sz:Nat} {nl tg:Bool} {xs:List D} : lq ty sz h (.sl nl tg 0 xs)=if tg=true then some (.fresh ty sz 0 [],none) else none:=Eq.trans rfl rfl
theorem I9 {ty sz o n:Nat} {r:Row} : tQ ty sz o n (some r)=if r.fz=false∧r.ty=ty∧o+n*sz≤r.cells.length then some (.fresh ty sz n ((r.cells.drop o).take (n*sz)),none) else none:=Eq.trans rfl rfl
theorem CI {d:D} : pA [d]=d:=Eq.trans rfl rfl
theorem CJ {d d':D} {ds:List D} : pA (d::d'::ds)=.tup (d::d'::ds):=Eq.trans rfl rfl
end
theorem Og (k:IntKind):(eI k).size=1:=Eq.trans rfl rfl
theorem Bw:gr.size=1:=Eq.trans rfl rfl
theorem E1:eU.size=1:=Eq.trans rfl rfl
theorem I8 {α:Type} (e:jJ α):(rG e).size=1:=Eq.trans rfl rfl
section
variable {α:Type} (E:jJ α) {l m:List α} {x x' z:α} {i a b n c:Int} {B:Nat}
theorem s8 (h:P.idx l i=some x):0≤i∧i<l.length:=by
 unfold P.idx at h
 split at h
 ·assumption
 ·cases h
theorem Ml (h:P.idx l i=some x):l[i.toNat]? = some x:=by
 unfold P.idx at h
 split at h
 ·exact h
 ·cases h
theorem wV (h:P.idx l i=some x):(ab E l).drop (i.toNat*E.size)=E.cells x++ab E (l.drop (i.toNat+1)):=by
 have h':=Ml h
 obtain⟨hi,rfl⟩:=List.getElem?_eq_some_iff.1 h'
 rw[tP,List.drop_eq_getElem_cons hi]
 rfl
theorem ui (h:P.idx l i=some x):i.toNat*E.size+E.size≤l.length*E.size:=by
 have h':=s8 h
 have:i.toNat+1≤l.length:=by omega
 have:=Nat.mul_le_mul_right E.size this
 rwa [Nat.succ_mul]at this
theorem bF (h:P.idx l i=some x):(0≤i∧i<l.length)∧(ab E l).drop (i.toNat*E.size)=E.cells x++ab E (l.drop (i.toNat+1))∧i.toNat*E.size+E.size≤l.length*E.size:=⟨s8 h,wV E h,ui E h⟩
theorem SY:∀(l:List α) (i:Nat) (x:α),l[i]? = some x→∀x',ab E (l.set i x')=(ab E l).take (i*E.size)++E.cells x'++(ab E l).drop (i*E.size+E.size)
 | [],i,x,h,x'=>by simp at h
 | y::l,0,x,h,x'=>by
  rw[List.set_cons_zero,aM,aM,Nat.zero_mul,List.take_zero,List.nil_append,Nat.zero_add,List.drop_append,E.len,Nat.sub_self,List.drop_zero,List.drop_eq_nil_of_le (by rw[E.len];exact Nat.le_refl _),List.nil_append]
 | y::l,i+1,x,h,x'=>by
  have ih:=SY l i x (by simpa using h) x'
  rw[List.set_cons_succ,aM,aM,ih,Nat.succ_mul]
  have hy:=E.len y
  have e1:(E.cells y++ab E l).take (i*E.size+E.size)=E.cells y++(ab E l).take (i*E.size):=by rw[List.take_append,hy,List.take_of_length_le (by omega),Nat.add_sub_cancel]
  have e2:(E.cells y++ab E l).drop (i*E.size+E.size+E.size)=(ab E l).drop (i*E.size+E.size):=by
   rw[List.drop_append,hy,List.drop_eq_nil_of_le (by omega),List.nil_append,Nat.add_sub_cancel]
  rw[e1,e2]
  simp only[List.append_assoc]
theorem jH (fo:Nat) (cs:List D) (h:P.idx l i=some x) (hc:E.cells x'=putCells (E.cells x) fo cs) (hfo:fo+cs.length≤E.size):putCells (ab E l) (i.toNat*E.size+fo) cs=ab E (l.set i.toNat x'):=by
 have h':=Ml h
 rw[SY E l i.toNat x h' x',hc]
 have he:=wV E h
 have hf:=ui E h
 have hl:=cN E l
 have hx:=E.len x
 have hsplit:ab E l=(ab E l).take (i.toNat*E.size)++(E.cells x++(ab E l).drop (i.toNat*E.size+E.size)):=by
  have h1:=List.take_append_drop (i.toNat*E.size) (ab E l)
  have h2:(ab E l).drop (i.toNat*E.size+E.size)=ab E (l.drop (i.toNat+1)):=by
   rw[← List.drop_drop,he,List.drop_append,hx,Nat.sub_self,List.drop_zero,List.drop_eq_nil_of_le (by omega),List.nil_append]
  rw[h2,← he,h1]
 generalize (ab E l).drop (i.toNat*E.size+E.size)=r at *
 generalize ht:(ab E l).take (i.toNat*E.size)=p at *
 have hp:p.length=i.toNat*E.size:=by rw[← ht];simp;omega
 unfold putCells
 rw[hsplit]
 have e1:(p++(E.cells x++r)).take (i.toNat*E.size+fo)=p++(E.cells x).take fo:=by
  rw[List.take_append,hp,List.take_of_length_le (by omega),Nat.add_sub_cancel_left,List.take_append_of_le_length (by omega)]
 have e2:(p++(E.cells x++r)).drop (i.toNat*E.size+fo+cs.length)=(E.cells x).drop (fo+cs.length)++r:=by
  rw[Nat.add_assoc,List.drop_append,hp,List.drop_eq_nil_of_le (by omega),Nat.add_sub_cancel_left,List.nil_append,List.drop_append_of_le_length (by omega)]
 rw[e1,e2]
 simp only[List.append_assoc]
theorem SP (h:P.idx l i=some x):putCells (ab E l) (i.toNat*E.size) (E.cells x')=ab E (l.set i.toNat x'):=by
 have:=jH E (x':=x') 0 (E.cells x') h (by unfold putCells;simp[E.len]) (by rw[E.len];omega)
 simpa using this
theorem Kx (h:LG B n c z=some m):m=List.replicate n.toNat z∧0≤n∧n≤c∧c≤maxLen∧c.toNat*B≤140737488355328:=by
 unfold LG at h
 split at h
 ·cases h;exact⟨rfl,by assumption⟩
 ·cases h
theorem mk_one (h:LG B n n z=some m):0≤n∧n.toNat=m.length∧m.length≤maxLen∧oe m.length (E.cells z)=ab E m∧m.length*B≤140737488355328:=by
 obtain⟨rfl,h1,_,h3,h4⟩:=Kx h
 refine⟨h1,by simp,by simp;omega,by rw[BE];simp,by simpa using h4⟩
theorem Wl (h:LG B n c z=some m):0≤n∧0≤c∧n.toNat=m.length∧oe m.length (E.cells z)=ab E m∧m.length≤c.toNat∧c.toNat≤maxLen∧c.toNat*B≤140737488355328:=by
 obtain⟨rfl,h1,h2,h3,h4⟩:=Kx h
 refine⟨h1,by omega,by simp,by rw[BE];simp,by simp;omega,by omega,h4⟩
theorem yE (h:CV l a b=some m):0≤a∧0≤b∧a.toNat≤b.toNat∧b.toNat≤l.length∧b.toNat-a.toNat=m.length∧(List.take (m.length*E.size) (List.drop (a.toNat*E.size) (ab E l))=ab E m):=by
 unfold CV at h
 split at h
 ·rename_i hc
  cases h
  have hl:((l.drop a.toNat).take (b.toNat-a.toNat)).length=b.toNat-a.toNat:=by simp;omega
  refine⟨hc.1,by omega,by omega,by omega,hl.symm,?_⟩
  rw[hl,tP,fl]
 ·cases h
theorem Ww (h:CV l a b=some m):0≤a∧0≤b∧(a.toNat≤b.toNat∧b.toNat≤l.length)∧b.toNat-a.toNat=m.length∧(List.take (m.length*E.size) (List.drop (a.toNat*E.size) (ab E l))=ab E m):=by
 obtain⟨h1,h2,h3,h4,h5,h6⟩:=yE E h
 exact⟨h1,h2,⟨h3,h4⟩,h5,h6⟩
theorem Wx (h:CV l a (l.length:Int)=some m):0≤a∧0≤a∧a.toNat≤l.length∧l.length-a.toNat=m.length∧(List.take (m.length*E.size) (List.drop (a.toNat*E.size) (ab E l))=ab E m):=by
 obtain⟨h1,h2,h3,h4,h5,h6⟩:=yE E h
 simp only[Int.toNat_natCast]at h3 h5
 exact⟨h1,h1,h3,h5,h6⟩
theorem CW (h:CV l 0 b=some m):0≤b∧0≤b∧m.length≤l.length∧b.toNat=m.length∧(List.take (m.length*E.size) (ab E l)=ab E m):=by
 obtain⟨h1,h2,h3,h4,h5,h6⟩:=yE E h
 have h5':b.toNat=m.length:=by simpa using h5
 refine⟨h2,h2,by omega,h5',by simpa using h6⟩
theorem xS {n:List α} (h:iH B l m=some n):n=l++m∧n.length≤maxLen∧n.length*B≤140737488355328:=by
 unfold iH at h
 split at h
 ·rename_i hc
  cases h
  exact⟨rfl,by rw[List.length_append];exact hc.1,by rw[List.length_append];exact hc.2⟩
 ·cases h
theorem fD {n:List α} (h:iH B l [x]=some n):l.length+1=n.length∧ab E l++E.cells x=ab E n∧n.length≤maxLen∧n.length*B≤140737488355328:=by
 obtain⟨rfl,h1,h2⟩:=xS h
 exact⟨by simp,by rw[fN];simp[ab],h1,h2⟩
theorem qk {n:List α} (h:iH B [] l=some n):n=l∧l.length≤maxLen∧l.length*B≤140737488355328:=by
 obtain⟨rfl,h1,h2⟩:=xS h
 exact⟨rfl,h1,h2⟩
theorem Uh {n:List α} (h:iH B l m=some n):l.length+m.length=n.length∧ab E l++ab E m=ab E n∧n.length≤maxLen∧n.length*B≤140737488355328:=by
 obtain⟨rfl,h1,h2⟩:=xS h
 exact⟨by simp,by rw[fN],h1,h2⟩
end
theorem qz {k:IntKind} {x y z:Int} (h:xV k x y=some z):¬y=0∧k.wrap (x.tdiv y)=z:=by
 unfold xV at h
 split at h
 ·cases h
 ·cases h;exact⟨by assumption,rfl⟩
theorem oR {k:IntKind} {x y z:Int} (h:tk k x y=some z):¬y=0∧x.tmod y=z:=by
 unfold tk at h
 split at h
 ·cases h
 ·cases h;exact⟨by assumption,rfl⟩
theorem Ay {k:IntKind} {x y z:Int} (h:D6 k x y=some z):¬y<0∧k.wrap (x*2 ^ (min y.toNat k.bits))=z:=by
 unfold D6 at h
 split at h
 ·cases h
 ·cases h;exact⟨by assumption,rfl⟩
theorem rp {k:IntKind} {x y z:Int} (h:yC k x y=some z):¬y<0∧x.fdiv (2 ^ (min y.toNat k.bits))=z:=by
 unfold yC at h
 split at h
 ·cases h
 ·cases h;exact⟨by assumption,rfl⟩
theorem NW (op:BinOp) (k:IntKind) (x y:Int):AV op k x y=nN op k x y:=Eq.trans rfl rfl
theorem OW {s:ByteArray} {i x:Int} (h:P.UX s i=some x):0≤i∧0≤i∧s[i.toNat]? = some (UInt8.ofNat x.toNat)∧((UInt8.ofNat x.toNat).toNat:Int)=x:=by
 unfold P.UX at h
 split at h
 ·rename_i hi
  rw[Option.map_eq_some_iff]at h
  obtain⟨b,h1,h2⟩:=h
  subst h2
  have:UInt8.ofNat (b.toNat:Int).toNat=b:=by simp
  exact⟨hi,hi,by rw[h1,this],by rw[this]⟩
 ·cases h
theorem pe.emp {P:Program} {f:FuncId} {rk:RK} {out:Option Row} (h1:pe P f none [.sl true true 0 []] rk out) (h2:pe P f none [.sl true false 0 []] rk out):pe P f none [.sl false false 0 []] rk out:=by
 intro w M vs hM ha
 have hd:=ha.2 0 _ rfl
 generalize hu:vs.getD 0 undef=u at hd
 cases hd with
 | sl A c nl tight n xs us k1 k2 k3 k4 k5 k6 k7 k8 =>
  cases A with
  | none =>
   refine h1 w M vs hM ⟨ha.1,fun j d hj =>?_,ha.tab⟩
   cases j with
   | zero=>cases hj;rw[hu];exact .sl none c true true 0 [] us k1 k2 (fun _=>⟨fun _=>⟨rfl,(k4 rfl).2⟩,fun h=>by cases h⟩) k4 (fun _=>(k4 rfl).2) k6 k7 k8
   | succ j=>simp at hj
  | some A =>
   refine h2 w M vs hM ⟨ha.1,fun j d hj =>?_,ha.tab⟩
   cases j with
   | zero=>cases hj;rw[hu];exact .sl (some A) c true false 0 [] us k1 k2 (fun _=>⟨(fun h=>by cases h),fun _ h=>by cases h⟩) k4 (fun h=>by cases h) k6 k7 k8
   | succ j=>simp at hj
theorem bN.VG {P:Program} {T:Nat→Option Ty} {Γ:Env} (hT:k9 P T) (hΓ:bT P Γ) (hm:P.follows .mixedOrders=true) {α β:Type} {E:jJ α} {F:List α→Option β} {R:β→RK} {mode:Mode} {f:FuncId} {fn:Func} (hf:P.funcs[f]? = some fn) (hok:(match fn.body with|some c=>codeOk c|none=>true)=true)
  (hc:(fn.name == "runtime.NumGoroutine")=false∧fn.body.isNone=false) (hn:1≤fn.ntmps)
  (h0:∀r,F []=some r→aS mode T Γ FU fn none [.sl true true 0 []]=some (R r,none))
  (h1:∀r,F []=some r→aS mode T Γ FU fn none [.sl true false 0 []]=some (R r,none))
  (h2:∀l r,0<l.length→F l=some r→aS mode T Γ FU fn none [.sl false false l.length (ab E l)]=some (R r,none)):bN P f (eB (dK (iG E)) F R) where
 calls lent Zo rk out hg:=by
  obtain⟨rfl,rfl,l,r,rfl,hr,rfl⟩:=pK hg
  cases l with
  | nil=>exact pe.emp (ke hT hΓ hm hf hok hn rfl (h0 r hr)) (ke hT hΓ hm hf hok hn rfl (h1 r hr))
  | cons x l=>exact ke hT hΓ hm hf hok hn rfl (h2 (x::l) r (by simp) hr)
 callable:=⟨fn,hf,hc⟩
theorem Y0:type_of% (ai @Gv<|ai @AX<|ai @F9<|ai @K4<|ai @K3<|ai @F7<|ai @CQ<|ai @F8<|ai @bq<|ai @bc<|ai @rU<|ai @bC<|ai @vn<|ai @zD<|ai @CT<|ai @F6<|ai @Gj<|ai @C5<|ai @K1<|ai @F4<|ai @CN<|ai @Gk<|ai @C6<|ai @C7<|ai @zO<|ai @K2<|ai @F5<|ai @CO<|ai @Gl<|ai @C9<|ai @Da<|ai @zP<|ai @Lg<|ai @Lh<|ai @OX<|ai @OY<|ai @Cv<|ai @zk<|ai @Cw<|ai @zl<|ai @IX<|ai @I3<|ai @IW<|ai @I2<|ai @Bg<|ai @Bj<|ai @EG<|ai @EO<|ai @IY<|ai @I4<|ai @IU<|@I0):=⟨@Gv,@AX,@F9,@K4,@K3,@F7,@CQ,@F8,@bq,@bc,@rU,@bC,@vn,@zD,@CT,@F6,@Gj,@C5,@K1,@F4,@CN,@Gk,@C6,@C7,@zO,@K2,@F5,@CO,@Gl,@C9,@Da,@zP,@Lg,@Lh,@OX,@OY,@Cv,@zk,@Cw,@zl,@IX,@I3,@IW,@I2,@Bg,@Bj,@EG,@EO,@IY,@I4,@IU,@I0⟩
theorem Y1:type_of% (ai @EM<|ai @EV<|ai @wz<|ai @wC<|ai @uS<|ai @uW<|ai @EI<|ai @ER<|ai @uT<|ai @uX<|ai @EJ<|ai @ES<|ai @EK<|ai @ET<|ai @EH<|ai @EP<|ai @sK<|ai @sL<|ai @uU<|ai @uY<|ai @EF<|ai @EN<|ai @Oe<|ai @Of<|ai @yU<|ai @yY<|ai @yV<|ai @yZ<|ai @IT<|ai @IZ<|ai @yT<|ai @yX<|ai @KC<|ai @KN<|ai @El<|ai @yK<|ai @EE<|ai @Jf<|ai @Br<|ai @Bq<|ai @B2<|ai @B1<|ai @cP<|ai @zc<|ai @cO<|ai @qQ<|ai @Pt<|ai @Ia<|ai @Ee<|ai @Ed<|ai @Fz<|@Fe):=⟨@EM,@EV,@wz,@wC,@uS,@uW,@EI,@ER,@uT,@uX,@EJ,@ES,@EK,@ET,@EH,@EP,@sK,@sL,@uU,@uY,@EF,@EN,@Oe,@Of,@yU,@yY,@yV,@yZ,@IT,@IZ,@yT,@yX,@KC,@KN,@El,@yK,@EE,@Jf,@Br,@Bq,@B2,@B1,@cP,@zc,@cO,@qQ,@Pt,@Ia,@Ee,@Ed,@Fz,@Fe⟩
theorem Y2:type_of% (ai @Ff<|ai @zI<|ai @C3<|ai @C2<|ai @zN<|ai @tI<|ai @rX<|ai @zK<|ai @rY<|ai @zL<|ai @rZ<|ai @zH<|ai @Gg<|ai @vt<|ai @vu<|ai @zJ<|ai @pS<|ai @zM<|ai @C1<|ai @vr<|ai @xq<|ai @OJ<|ai @KB<|ai @F0<|ai @FZ<|ai @Fq<|ai @NO<|ai @Ic<|ai @NS<|ai @Re<|ai @NR<|ai @Ra<|ai @NM<|ai @NT<|ai @Q9<|ai @Ao<|ai @NU<|ai @NN<|ai @Ef<|ai @AR<|ai @NQ<|ai @Eg<|ai @Ev<|ai @Ba<|ai @Ey<|ai @Iu<|ai @A7<|ai @yR<|ai @A9<|ai @Eu<|ai @A6<|@IF):=⟨@Ff,@zI,@C3,@C2,@zN,@tI,@rX,@zK,@rY,@zL,@rZ,@zH,@Gg,@vt,@vu,@zJ,@pS,@zM,@C1,@vr,@xq,@OJ,@KB,@F0,@FZ,@Fq,@NO,@Ic,@NS,@Re,@NR,@Ra,@NM,@NT,@Q9,@Ao,@NU,@NN,@Ef,@AR,@NQ,@Eg,@Ev,@Ba,@Ey,@Iu,@A7,@yR,@A9,@Eu,@A6,@IF⟩
theorem Y3:type_of% (ai @IK<|ai @IB<|ai @EA<|ai @IE<|ai @N9<|ai @Ix<|ai @N7<|ai @N6<|ai @Iz<|ai @ID<|ai @RB<|ai @Od<|ai @RD<|ai @Vl<|ai @Rz<|ai @RA<|ai @IS<|ai @Fb<|ai @On<|ai @N0<|ai @Et<|ai @En<|ai @A4<|ai @Fj<|ai @BQ<|ai @Jj<|ai @Oo<|ai @Jk<|ai @EB<|ai @Bb<|ai @Ih<|ai @KY<|ai @F3<|ai @KX<|ai @F1<|ai @KV<|ai @F2<|ai @BF<|ai @E3<|ai @A5<|ai @yb<|ai @BG<|ai @BH<|ai @RV<|ai @Oh<|ai @RS<|ai @I9<|ai @CI<|ai @CJ<|ai @NW<|ai @wK<|@aM):=⟨@IK,@IB,@EA,@IE,@N9,@Ix,@N7,@N6,@Iz,@ID,@RB,@Od,@RD,@Vl,@Rz,@RA,@IS,@Fb,@On,@N0,@Et,@En,@A4,@Fj,@BQ,@Jj,@Oo,@Jk,@EB,@Bb,@Ih,@KY,@F3,@KX,@F1,@KV,@F2,@BF,@E3,@A5,@yb,@BG,@BH,@RV,@Oh,@RS,@I9,@CI,@CJ,@NW,@wK,@aM⟩
theorem Y9:type_of% (And.intro (@Lq)<|@Lr):=⟨@Lq,@Lr⟩
theorem Y8:type_of% (ai @true_and<|ai @and_true<|ai @Bool.false_eq_true<|ai @List.map_cons.{0,0}<|ai @List.map_nil.{0,0}<|ai @List.drop_succ_cons.{0}<|ai @List.drop_zero.{0}<|ai @List.take_succ_cons.{0}<|ai @List.take_zero.{0}<|ai @List.length_cons.{0}<|ai @List.length_nil.{0}<|ai @List.contains_nil.{0}<|ai @List.nil_append.{0}<|ai @List.cons_append.{0}<|ai @List.append_nil.{0}<|ai @List.getElem?_cons_zero.{0}<|ai @List.getElem?_cons_succ.{0}<|ai @decide_true<|ai @decide_false<|ai @beq_self_eq_true.{0}<|ai @List.isEmpty_nil.{0}<|ai @List.isEmpty_cons.{0}<|ai @Option.map_none.{0,0}<|ai @Option.map_some.{0,0}<|ai @List.all_cons.{0}<|ai @List.all_nil.{0}<|ai @Option.isSome_some.{0}<|ai @Bool.and_true<|ai @Bool.true_and<|ai @Bool.false_and<|ai @Bool.and_self<|ai @Bool.not_true<|ai @Bool.not_false<|ai @and_self<|ai @Nat.zero_add<|ai @Nat.add_zero<|ai @Nat.zero_mul<|ai @Nat.sub_zero<|ai @Nat.zero_le<|ai @Nat.le_refl<|ai @Option.some.injEq.{0}<|ai @Nat.le_zero_eq<|ai @Nat.one_ne_zero<|ai @Bool.or_self<|ai @Bool.or_true<|ai @Bool.true_or<|ai @Bool.or_false<|ai @Bool.false_or<|@List.length_set.{0}):=⟨@true_and,@and_true,@Bool.false_eq_true,@List.map_cons.{0,0},@List.map_nil.{0,0},@List.drop_succ_cons.{0},@List.drop_zero.{0},@List.take_succ_cons.{0},@List.take_zero.{0},@List.length_cons.{0},@List.length_nil.{0},@List.contains_nil.{0},@List.nil_append.{0},@List.cons_append.{0},@List.append_nil.{0},@List.getElem?_cons_zero.{0},@List.getElem?_cons_succ.{0},@decide_true,@decide_false,@beq_self_eq_true.{0},@List.isEmpty_nil.{0},@List.isEmpty_cons.{0},@Option.map_none.{0,0},@Option.map_some.{0,0},@List.all_cons.{0},@List.all_nil.{0},@Option.isSome_some.{0},@Bool.and_true,@Bool.true_and,@Bool.false_and,@Bool.and_self,@Bool.not_true,@Bool.not_false,@and_self,@Nat.zero_add,@Nat.add_zero,@Nat.zero_mul,@Nat.sub_zero,@Nat.zero_le,@Nat.le_refl,@Option.some.injEq.{0},@Nat.le_zero_eq,@Nat.one_ne_zero,@Bool.or_self,@Bool.or_true,@Bool.true_or,@Bool.or_false,@Bool.false_or,@List.length_set.{0}⟩
theorem Y4:type_of% (ai @CS<|ai @CR<|ai @Vj<|ai @Eh<|ai @AS<|ai @NJ<|ai @H5<|ai @NK<|ai @Q3<|ai @NH<|ai @NI<|ai @IH<|ai @Om<|ai @Fy<|ai @JP<|ai @Ca<|@JQ):=⟨@CS,@CR,@Vj,@Eh,@AS,@NJ,@H5,@NK,@Q3,@NH,@NI,@IH,@Om,@Fy,@JP,@Ca,@JQ⟩
theorem Zj:type_of% (ai @vO.eq_1<|ai @vO.eq_2<|ai @ev.eq_1<|ai @ev.eq_2<|ai @ev.eq_3<|ai @ev.eq_4<|ai @pN.eq_1<|ai @pN.eq_2<|ai @pN.eq_3<|ai @pN.eq_4<|ai @pN.eq_5<|ai @pN.eq_6<|ai @eG.eq_1<|ai @eG.eq_2<|ai @xU.eq_1<|ai @xU.eq_2<|ai @xU.eq_3<|ai @jG.eq_1<|ai @jG.eq_2<|ai @jG.eq_3<|ai @fa.eq_1<|ai @fa.eq_2<|ai @fa.eq_3<|ai @fa.eq_4<|ai @fa.eq_5<|ai @fa.eq_6<|ai @fa.eq_7<|ai @fa.eq_8<|ai @fa.eq_9<|ai @fa.eq_10<|ai @fa.eq_11<|ai @fa.eq_12<|ai @fa.eq_13<|ai @fa.eq_14<|ai @fa.eq_15<|ai @fa.eq_16<|ai @D7.eq_1<|ai @D7.eq_2<|ai @D7.eq_3<|ai @D7.eq_4<|ai @D7.eq_5<|ai @D7.eq_6<|ai @UG.eq_1<|ai @bx.eq_1<|ai @bx.eq_2<|ai @dG.eq_1<|ai @dG.eq_2<|ai @dG.eq_3<|ai @dy.eq_1<|ai @dy.eq_2<|ai @dy.eq_3<|ai @live.eq_1<|ai @ma.eq_1<|ai @ma.eq_2<|ai @Ds.ot.eq_1<|ai @Ds.ot.eq_2<|ai @Ds.ot.eq_3<|ai @ct.eq_1<|ai @ct.eq_2<|ai @ct.eq_3<|ai @ct.eq_4<|ai @ct.eq_5<|ai @ct.eq_6<|ai @fE.eq_1<|ai @fE.eq_2<|ai @fE.eq_3<|ai @fE.eq_4<|ai @fE.eq_5<|ai @fE.eq_6<|ai @nX.eq_1<|ai @nX.eq_2<|ai @wX.eq_1<|ai @wX.eq_2<|ai @wX.eq_3<|ai @wX.eq_4<|ai @alive.eq_1<|ai @alive.eq_2<|ai @alive.eq_3<|ai @nm.eq_1<|ai @nm.eq_2<|ai @ik.eq_1<|ai @ik.eq_2<|ai @ik.eq_3<|ai @ik.eq_4<|ai @ik.eq_5<|ai @ik.eq_6<|ai @cM.eq_1<|ai @cM.eq_2<|ai @oU.eq_1<|ai @iP.eq_1<|ai @iP.eq_2<|ai @iP.eq_3<|ai @ky.eq_1<|ai @ky.eq_2<|ai @FG.eq_1<|ai @bQ.eq_1<|ai @bQ.eq_2<|ai @bQ.eq_3<|ai @bQ.eq_4<|ai @fA.eq_1<|ai @fA.eq_2<|ai @fA.eq_3<|ai @cF.eq_1<|ai @cF.eq_2<|ai @cF.eq_3<|ai @cF.eq_4<|ai @cF.eq_5<|ai @cF.eq_6<|ai @eE.eq_1<|ai @gH.eq_1<|ai @gH.eq_2<|ai @fieldAt.eq_1<|ai @dF.eq_1<|ai @oC.eq_1<|ai @ie.eq_1<|ai @content.eq_1<|ai @content.eq_2<|ai @content.eq_3<|ai @putCells.eq_1<|ai @QO.eq_1<|ai @QO.eq_2<|ai @QO.eq_3<|ai @QO.eq_4<|ai @L5.eq_1<|ai @L5.eq_2<|ai @L5.eq_3<|ai @L5.eq_4<|ai @PQ.eq_1<|ai @PQ.eq_2<|ai @PQ.eq_3<|ai @eQ.eq_1<|ai @eQ.eq_2<|ai @eQ.eq_3<|ai @kindOk.eq_1<|ai @kindOk.eq_2<|ai @kindOk.eq_3<|ai @kindOk.eq_4<|ai @jv.eq_1<|ai @jv.eq_2<|ai @jv.eq_3<|ai @jv.eq_4<|ai @mo.eq_1<|ai @mo.eq_2<|ai @mo.eq_3<|ai @mo.eq_4<|ai @mo.eq_5<|ai @mo.eq_6<|ai @mo.eq_7<|ai @mo.eq_8<|ai @rn.eq_1<|ai @rn.eq_2<|ai @rn.eq_3<|ai @a7.eq_1<|ai @a7.eq_2<|ai @a7.eq_3<|ai @a7.eq_4<|ai @a7.eq_5<|ai @a7.eq_6<|ai @a7.eq_7<|ai @pL.eq_1<|ai @pL.eq_2<|ai @sD.eq_1<|ai @sD.eq_2<|ai @sD.eq_3<|@sD.eq_4):=⟨@vO.eq_1,@vO.eq_2,@ev.eq_1,@ev.eq_2,@ev.eq_3,@ev.eq_4,@pN.eq_1,@pN.eq_2,@pN.eq_3,@pN.eq_4,@pN.eq_5,@pN.eq_6,@eG.eq_1,@eG.eq_2,@xU.eq_1,@xU.eq_2,@xU.eq_3,@jG.eq_1,@jG.eq_2,@jG.eq_3,@fa.eq_1,@fa.eq_2,@fa.eq_3,@fa.eq_4,@fa.eq_5,@fa.eq_6,@fa.eq_7,@fa.eq_8,@fa.eq_9,@fa.eq_10,@fa.eq_11,@fa.eq_12,@fa.eq_13,@fa.eq_14,@fa.eq_15,@fa.eq_16,@D7.eq_1,@D7.eq_2,@D7.eq_3,@D7.eq_4,@D7.eq_5,@D7.eq_6,@UG.eq_1,@bx.eq_1,@bx.eq_2,@dG.eq_1,@dG.eq_2,@dG.eq_3,@dy.eq_1,@dy.eq_2,@dy.eq_3,@live.eq_1,@ma.eq_1,@ma.eq_2,@Ds.ot.eq_1,@Ds.ot.eq_2,@Ds.ot.eq_3,@ct.eq_1,@ct.eq_2,@ct.eq_3,@ct.eq_4,@ct.eq_5,@ct.eq_6,@fE.eq_1,@fE.eq_2,@fE.eq_3,@fE.eq_4,@fE.eq_5,@fE.eq_6,@nX.eq_1,@nX.eq_2,@wX.eq_1,@wX.eq_2,@wX.eq_3,@wX.eq_4,@alive.eq_1,@alive.eq_2,@alive.eq_3,@nm.eq_1,@nm.eq_2,@ik.eq_1,@ik.eq_2,@ik.eq_3,@ik.eq_4,@ik.eq_5,@ik.eq_6,@cM.eq_1,@cM.eq_2,@oU.eq_1,@iP.eq_1,@iP.eq_2,@iP.eq_3,@ky.eq_1,@ky.eq_2,@FG.eq_1,@bQ.eq_1,@bQ.eq_2,@bQ.eq_3,@bQ.eq_4,@fA.eq_1,@fA.eq_2,@fA.eq_3,@cF.eq_1,@cF.eq_2,@cF.eq_3,@cF.eq_4,@cF.eq_5,@cF.eq_6,@eE.eq_1,@gH.eq_1,@gH.eq_2,@fieldAt.eq_1,@dF.eq_1,@oC.eq_1,@ie.eq_1,@content.eq_1,@content.eq_2,@content.eq_3,@putCells.eq_1,@QO.eq_1,@QO.eq_2,@QO.eq_3,@QO.eq_4,@L5.eq_1,@L5.eq_2,@L5.eq_3,@L5.eq_4,@PQ.eq_1,@PQ.eq_2,@PQ.eq_3,@eQ.eq_1,@eQ.eq_2,@eQ.eq_3,@kindOk.eq_1,@kindOk.eq_2,@kindOk.eq_3,@kindOk.eq_4,@jv.eq_1,@jv.eq_2,@jv.eq_3,@jv.eq_4,@mo.eq_1,@mo.eq_2,@mo.eq_3,@mo.eq_4,@mo.eq_5,@mo.eq_6,@mo.eq_7,@mo.eq_8,@rn.eq_1,@rn.eq_2,@rn.eq_3,@a7.eq_1,@a7.eq_2,@a7.eq_3,@a7.eq_4,@a7.eq_5,@a7.eq_6,@a7.eq_7,@pL.eq_1,@pL.eq_2,@sD.eq_1,@sD.eq_2,@sD.eq_3,@sD.eq_4⟩
theorem Yc:type_of% (ai @Er<|ai @Eo<|ai @Ep<|ai @Oj<|ai @JN<|ai @JE<|ai @JI<|ai @Fw<|ai @Jz<|ai @JA<|ai @B0<|ai @JC<|ai @JB<|ai @Fk<|ai @J0<|ai @J3<|ai @NY<|ai @AY<|ai @AZ<|ai @Es<|ai @Ol<|ai @JO<|ai @JF<|ai @Fx<|ai @JJ<|ai @B7<|ai @JL<|ai @JK<|ai @Fo<|ai @NZ<|@A0):=⟨@Er,@Eo,@Ep,@Oj,@JN,@JE,@JI,@Fw,@Jz,@JA,@B0,@JC,@JB,@Fk,@J0,@J3,@NY,@AY,@AZ,@Es,@Ol,@JO,@JF,@Fx,@JJ,@B7,@JL,@JK,@Fo,@NZ,@A0⟩
section
variable {T:Nat→Option Ty} {Γ:Env} {N F e:Nat} {Q Q':Kt} {t:Nat→D} {h:Nat→Option Row}
theorem gA (hm:∀x t h e,Q x t h e→Q' x t h e):∀(ws:List W) (x:Ex) (t:Nat→D) (h:Nat→Option Row) (e:Nat),da T Γ N F ws Q x t h e→da T Γ N F ws Q' x t h e
 | [],x,t,h,e,hk=>hm _ _ _ _ hk
 | .code c::ws,x,t,h,e,hk=>by
  unfold da at hk ⊢
  cases x with
  | normal=>exact QM c t h e _ _ hk (fun x t h e hx=>gA hm ws x t h e hx)
  | exit n=>exact gA hm ws _ t h e hk
  | ret=>exact gA hm ws _ t h e hk
 | .blk id::ws,x,t,h,e,hk=>by
  unfold da Rh at hk ⊢
  cases x with
  | normal=>exact gA hm ws _ t h e hk
  | exit n =>
   simp only at hk ⊢
   split at hk
   ·rename_i hn;rw[if_pos hn];exact gA hm ws _ t h e hk
   ·rename_i hn;rw[if_neg hn];exact gA hm ws _ t h e hk
  | ret=>exact gA hm ws _ t h e hk
theorem oh:∀(ws:List W) (k:Nat),da T Γ N F ws Q=da T Γ N F (ws.take k) (da T Γ N F (ws.drop k) Q)
 | ws,0=>by simp[da]
 | [],k+1=>by simp[da]
 | .code c::ws,k+1=>by
  rw[List.take_succ_cons,List.drop_succ_cons]
  funext x t h e
  unfold da
  rw[oh ws k]
 | .blk id::ws,k+1=>by
  rw[List.take_succ_cons,List.drop_succ_cons]
  funext x t h e
  unfold da
  rw[oh ws k]
variable {σ:Type} {ops l:List Oper} {ws:List W} {dst:Option Nat} {fs:List kj} {d:D} {g:Nat}
theorem rB {J:σ→(Nat→D)→(Nat→Option Row)→Nat→Prop} {P:σ→Prop} {R:Kt} (hrest:∀s t h e,J s t h e→P s→R .normal t h e):∀x t h e,CK J P R x t h e→R x t h e:=by
 intro x t h e hx
 cases x with
 | normal=>obtain⟨s,h1,h2⟩:=hx;exact hrest s t h e h2 h1
 | exit n=>exact hx
 | ret=>exact hx
theorem uy (hm:∀x t h e,Q x t h e→Q' x t h e) (hk:kP T Γ N F ops l ws Q t h e):kP T Γ N F ops l ws Q' t h e:=uA (fun t h hh=>gA hm ws _ _ _ _ hh) _ _ _ hk
theorem uz (hm:∀x t h e,Q x t h e→Q' x t h e) (hk:kQ T Γ N F ops l ws Q t h e fs):kQ T Γ N F ops l ws Q' t h e fs:=ux (fun t h fs hh=>⟨hh.1,gA hm ws _ _ _ _ hh.2⟩) _ _ _ _ hk
theorem rj (k:Nat):kP T Γ N F ops l ws Q t h e=kP T Γ N F ops l (ws.take k) (da T Γ N F (ws.drop k) Q) t h e:=by unfold kP;rw[oh ws k]
theorem rl (k:Nat):kQ T Γ N F ops l ws Q t h e fs=kQ T Γ N F ops l (ws.take k) (da T Γ N F (ws.drop k) Q) t h e fs:=by unfold kQ;rw[oh ws k]
theorem EL (k:Nat) {o:Oper} : oA T Γ N F o ops l ws Q t h e=oA T Γ N F o ops l (ws.take k) (da T Γ N F (ws.drop k) Q) t h e:=by
 unfold oA
 congr 1
 funext t E
 rw[rj k]
theorem EU (k:Nat) {o:Oper} : oB T Γ N F o ops l ws Q t h e fs=oB T Γ N F o ops l (ws.take k) (da T Γ N F (ws.drop k) Q) t h e fs:=by
 unfold oB
 congr 1
 funext t E
 rw[rl k]
theorem IV {o:Oper} (hm:∀x t h e,Q x t h e→Q' x t h e) (hk:oA T Γ N F o ops l ws Q t h e):oA T Γ N F o ops l ws Q' t h e:=xx hk fun _ _ hh=>uy hm hh
theorem I1 {o:Oper} (hm:∀x t h e,Q x t h e→Q' x t h e) (hk:oB T Γ N F o ops l ws Q t h e fs):oB T Γ N F o ops l ws Q' t h e fs:=xx hk fun _ _ hh=>uz hm hh
variable (k:Nat) (J:σ→(Nat→D)→(Nat→Option Row)→Nat→Prop) (P:σ→Prop)
theorem kX {x y:Code} (hrest:∀s t h e,J s t h e→P s→da T Γ N F (ws.drop k) Q .normal t h e) (hc:HV T Γ N F d g x y (ws.take k) (CK J P (da T Γ N F (ws.drop k) Q)) t h e):HV T Γ N F d g x y ws Q t h e:=by
 unfold HV at hc ⊢
 have e1:∀c:Code,da T Γ N F (.code c::ws) Q=da T Γ N F (.code c::ws.take k) (da T Γ N F (ws.drop k) Q):=fun c=>oh (.code c::ws) (k+1)
 rw[e1,e1]
 exact xv hc (fun _ hh=>gA (rB hrest) _ _ _ _ _ hh) (fun _ hh=>gA (rB hrest) _ _ _ _ _ hh)
theorem bH {want:Bool} {o:Oper} (hrest:∀s t h e,J s t h e→P s→da T Γ N F (ws.drop k) Q .normal t h e) (hc:uP T Γ N F d g want o ops l (ws.take k) (CK J P (da T Γ N F (ws.drop k) Q)) t h e):uP T Γ N F d g want o ops l ws Q t h e:=by
 unfold uP at hc ⊢
 refine De hc (fun t hh =>?_) (fun t hh =>?_) (fun t hh =>?_)
 ·cases want
  ·simp only[Bool.false_eq_true,if_false]at hh ⊢;rw[rj k];exact uy (rB hrest) hh
  ·simp only[if_true]at hh ⊢;rw[EL k];exact IV (rB hrest) hh
 ·cases want
  ·simp only[Bool.false_eq_true,if_false]at hh ⊢;rw[EL k];exact IV (rB hrest) hh
  ·simp only[if_true]at hh ⊢;rw[rj k];exact uy (rB hrest) hh
 ·rw[rj k];exact uy (rB hrest) hh
theorem C8 {want:Bool} {o:Oper} (hrest:∀s t h e,J s t h e→P s→da T Γ N F (ws.drop k) Q .normal t h e) (hc:uQ T Γ N F d g want o ops l (ws.take k) (CK J P (da T Γ N F (ws.drop k) Q)) t h e fs):uQ T Γ N F d g want o ops l ws Q t h e fs:=by
 unfold uQ at hc ⊢
 refine De hc (fun t hh =>?_) (fun t hh =>?_) (fun t hh =>?_)
 ·cases want
  ·simp only[Bool.false_eq_true,if_false]at hh ⊢;rw[rl k];exact uz (rB hrest) hh
  ·simp only[if_true]at hh ⊢;rw[EU k];exact I1 (rB hrest) hh
 ·cases want
  ·simp only[Bool.false_eq_true,if_false]at hh ⊢;rw[EU k];exact I1 (rB hrest) hh
  ·simp only[if_true]at hh ⊢;rw[rl k];exact uz (rB hrest) hh
 ·rw[rl k];exact uz (rB hrest) hh
end
noncomputable def QQ {α β γ:Type} (ty:Nat) (E:jJ γ) (A:mr α) (F:List γ→α→Option (List γ×β)) (R:β→RK):Option (D×Row)→List D→Option (RK×Option Row):=fun lent ds =>
 match lent with
 | some (.buf 0 0 s o n,⟨0,ty',cells,false,true,false⟩)=>open Classical in
  if h:ty'=ty∧s=E.size∧∃p:List D×List γ×List D×α,cells=p.1++(ab E p.2.1++p.2.2.1)∧o=p.1.length∧n=p.2.1.length∧ds=A.ds p.2.2.2 then
   (F (Classical.choose h.2.2).2.1 (Classical.choose h.2.2).2.2.2).map fun r=>(R r.2,some ⟨0,ty,(Classical.choose h.2.2).1++(ab E r.1++(Classical.choose h.2.2).2.2.1),false,true,false⟩)
  else none
 | _=>none
theorem Pv {γ:Type} {E:jJ γ} {p p' q q':List D} {l l':List γ} (h:p++(ab E l++q)=p'++(ab E l'++q')) (hp:p.length=p'.length) (hl:l.length=l'.length):p=p'∧l=l'∧q=q':=by
 obtain⟨h1,h2⟩:=List.append_inj h hp
 obtain⟨h3,h4⟩:=List.append_inj h2 (by rw[cN,cN,hl])
 exact⟨h1,sU E _ _ h3,h4⟩
theorem Cm {α β γ:Type} (ty:Nat) (E:jJ γ) (A:mr α) (F:List γ→α→Option (List γ×β)) (R:β→RK) (pre post:List D) (l:List γ) (a:α) :
  QQ ty E A F R (some (.buf 0 0 E.size pre.length l.length,⟨0,ty,pre++(ab E l++post),false,true,false⟩)) (A.ds a)=(F l a).map fun r=>(R r.2,some ⟨0,ty,pre++(ab E r.1++post),false,true,false⟩):=by
 have h:ty=ty∧E.size=E.size∧∃p:List D×List γ×List D×α,pre++(ab E l++post)=p.1++(ab E p.2.1++p.2.2.1)∧pre.length=p.1.length∧l.length=p.2.1.length∧A.ds a=A.ds p.2.2.2:=⟨rfl,rfl,(pre,l,post,a),rfl,rfl,rfl,rfl⟩
 simp only[QQ]
 rw[dif_pos h]
 obtain⟨h1,h2,h3,h4⟩:=Classical.choose_spec h.2.2
 obtain⟨e1,e2,e3⟩:=Pv h1 h2 h3
 rw[← A.inj _ _ h4,← e1,← e2,← e3]
theorem Kw {α β γ:Type} {ty:Nat} {E:jJ γ} {A:mr α} {F:List γ→α→Option (List γ×β)} {R:β→RK} {lent:Option (D×Row)} {ds:List D} {rk:RK} {out:Option Row} (h:QQ ty E A F R lent ds=some (rk,out)) :
  ∃pre l post a l' r,lent=some (.buf 0 0 E.size pre.length l.length,⟨0,ty,pre++(ab E l++post),false,true,false⟩)∧ds=A.ds a∧F l a=some (l',r)∧rk=R r∧out=some ⟨0,ty,pre++(ab E l'++post),false,true,false⟩:=by
 unfold QQ at h
 split at h
 ·split at h
  ·rename_i he
   obtain⟨rfl,rfl,he⟩:=he
   rw[Option.map_eq_some_iff]at h
   obtain⟨⟨l',r⟩,h1,h2⟩:=h
   simp only[Prod.mk.injEq]at h2
   obtain⟨rfl,rfl⟩:=h2
   obtain⟨g1,g2,g3,g4⟩:=Classical.choose_spec he
   refine⟨_,_,_,_,l',r,?_,g4,h1,rfl,rfl⟩
   rw[← g1,← g2,← g3]
  ·cases h
 ·cases h
theorem bN.OA {P:Program} {T:Nat→Option Ty} {Γ:Env} (hT:k9 P T) (hΓ:bT P Γ) (hm:P.follows .mixedOrders=true) {α β γ:Type} {ty:Nat} {E:jJ γ} {A:mr α} {F:List γ→α→Option (List γ×β)} {R:β→RK} {mode:Mode} {f:FuncId} {fn:Func} (hf:P.funcs[f]? = some fn) (hok:(match fn.body with|some c=>codeOk c|none=>true)=true)
  (hc:(fn.name == "runtime.NumGoroutine")=false∧fn.body.isNone=false) (hn:∀a,(A.ds a).length+1≤fn.ntmps)
  (h:∀pre post l a l' r,F l a=some (l',r)→aS mode T Γ FU fn (some (.buf 0 0 E.size pre.length l.length,⟨0,ty,pre++(ab E l++post),false,true,false⟩)) (A.ds a)=some (R r,some ⟨0,ty,pre++(ab E l'++post),false,true,false⟩)):bN P f (QQ ty E A F R) where
 calls lent Zo rk out hg:=by
  obtain⟨pre,l,post,a,l',r,rfl,rfl,hr,rfl,rfl⟩:=Kw hg
  exact ke hT hΓ hm hf hok (hn a) rfl (h pre post l a l' r hr)
 callable:=⟨fn,hf,hc⟩
noncomputable def VK {α γ:Type} (ty:Nat) (E:jJ γ) (A:mr α) (F:List γ→α→Option (List γ)):Option (D×Row)→List D→Option (RK×Option Row):=fun lent ds =>
 match lent with
 | some (.buf 0 0 s o n,⟨0,ty',cells,false,true,false⟩)=>open Classical in
  if h:ty'=ty∧s=E.size∧∃p:List D×List γ×List D×α,cells=p.1++(ab E p.2.1++p.2.2.1)∧o=p.1.length∧n=p.2.1.length∧ds=A.ds p.2.2.2 then
   (F (Classical.choose h.2.2).2.1 (Classical.choose h.2.2).2.2.2).map fun r=>(.fresh ty E.size r.length (ab E r),none)
  else none
 | _=>none
theorem Sv {α γ:Type} (ty:Nat) (E:jJ γ) (A:mr α) (F:List γ→α→Option (List γ)) (pre post:List D) (l:List γ) (a:α) :
  VK ty E A F (some (.buf 0 0 E.size pre.length l.length,⟨0,ty,pre++(ab E l++post),false,true,false⟩)) (A.ds a)=(F l a).map fun r=>(.fresh ty E.size r.length (ab E r),none):=by
 have h:ty=ty∧E.size=E.size∧∃p:List D×List γ×List D×α,pre++(ab E l++post)=p.1++(ab E p.2.1++p.2.2.1)∧pre.length=p.1.length∧l.length=p.2.1.length∧A.ds a=A.ds p.2.2.2:=⟨rfl,rfl,(pre,l,post,a),rfl,rfl,rfl,rfl⟩
 simp only[VK]
 rw[dif_pos h]
 obtain⟨h1,h2,h3,h4⟩:=Classical.choose_spec h.2.2
 obtain⟨e1,e2,e3⟩:=Pv h1 h2 h3
 rw[← A.inj _ _ h4,← e2]
theorem Kv {α γ:Type} {ty:Nat} {E:jJ γ} {A:mr α} {F:List γ→α→Option (List γ)} {lent:Option (D×Row)} {ds:List D} {rk:RK} {out:Option Row} (h:VK ty E A F lent ds=some (rk,out)) :
  ∃pre l post a r,lent=some (.buf 0 0 E.size pre.length l.length,⟨0,ty,pre++(ab E l++post),false,true,false⟩)∧ds=A.ds a∧F l a=some r∧rk=.fresh ty E.size r.length (ab E r)∧out=none:=by
 unfold VK at h
 split at h
 ·split at h
  ·rename_i he
   obtain⟨rfl,rfl,he⟩:=he
   rw[Option.map_eq_some_iff]at h
   obtain⟨r,h1,h2⟩:=h
   simp only[Prod.mk.injEq]at h2
   obtain⟨rfl,rfl⟩:=h2
   obtain⟨g1,g2,g3,g4⟩:=Classical.choose_spec he
   refine⟨(Classical.choose he).1,(Classical.choose he).2.1,(Classical.choose he).2.2.1,(Classical.choose he).2.2.2,r,?_,g4,h1,rfl,rfl⟩
   rw[← g1,← g2,← g3]
  ·cases h
 ·cases h
theorem bN.Xi {P:Program} {T:Nat→Option Ty} {Γ:Env} (hT:k9 P T) (hΓ:bT P Γ) (hm:P.follows .mixedOrders=true) {α γ:Type} {ty:Nat} {E:jJ γ} {A:mr α} {F:List γ→α→Option (List γ)} {f:FuncId} {fn:Func} (hf:P.funcs[f]? = some fn) (hok:(match fn.body with|some c=>codeOk c|none=>true)=true)
  (hc:(fn.name == "runtime.NumGoroutine")=false∧fn.body.isNone=false) (hn:∀a,(A.ds a).length+1≤fn.ntmps)
  (h:∀pre post l a r,F l a=some r→aS (.fresh ty E.size) T Γ FU fn (some (.buf 0 0 E.size pre.length l.length,⟨0,ty,pre++(ab E l++post),false,true,false⟩)) (A.ds a)=some (.fresh ty E.size r.length (ab E r),none)):bN P f (VK ty E A F) where
 calls lent Zo rk out hg:=by
  obtain⟨pre,l,post,a,r,rfl,rfl,hr,rfl,rfl⟩:=Kv hg
  exact ke hT hΓ hm hf hok (hn a) rfl (h pre post l a r hr)
 callable:=⟨fn,hf,hc⟩
theorem bN.zero {P:Program} {f:FuncId} {fn:Func} (hf:P.funcs[f]? = some fn) (hc:(fn.name == "runtime.NumGoroutine")=false∧fn.body.isNone=false) {α β:Type} {A:mr α} {F:α→Option β} {R:β→RK} (h0:∀a,F a=none):bN P f (eB A F R) where
 calls lent Zo rk out hg:=by
  obtain⟨rfl,rfl,a,r,rfl,hr,rfl⟩:=pK hg
  rw[h0]at hr
  cases hr
 callable:=⟨fn,hf,hc⟩
section
variable {h:Nat→Option Row} {Γ:Env} {g e x v d:Nat} {dst:Option Nat} {fr:List Nat} {Zo rest:List D} {d0:D} {T:Nat→Option Ty} {rs:List ResultVar}
def Ij (h:Nat→Option Row) (e:Nat) (dst:Option Nat) (x v:Nat) (fr:List Nat):Option (RK×Option Row)→Option dL
 | some (.clean c,some r1)=>some ⟨c,iC h fr++[(x,some { r1 with v:=v })]⟩
 | some (.same s o n,some r1)=>some ⟨.buf x v s o n,iC h fr++[(x,some { r1 with v:=v })]⟩
 | some (.fresh ty s n cells,none) =>
  match dst with
  | some d=>if fr.contains d=false then some ⟨.buf d e s 0 n,iC h fr++[(x,none),(d,some ⟨e,ty,cells,false,true,false⟩)]⟩ else none
  | none=>none
 | _=>none
def Rm (Γ:Env) (h:Nat→Option Row) (e:Nat) (dst:Option Nat) (g x v:Nat) (d0:D) (r:Row):Option (List D×List Nat)→Option dL
 | some (Zo,fr)=>if fr.contains x=false then Ij h e dst x v fr (Γ.sem g (some (d0,r)) Zo) else none
 | none=>none
def Rl (Γ:Env) (h:Nat→Option Row) (e:Nat) (dst:Option Nat) (g x v:Nat) (d0:D) (rest:List D):Option Row→Option dL
 | some r=>if r.fz=false then Rm Γ h e dst g x v d0 { r with v:=0 } (cn h rest) else none
 | none=>none
theorem Ik {s o n:Nat} : Dk true Γ h e dst g (.buf x v s o n::rest)=Rl Γ h e dst g x v (.buf 0 0 s o n) rest (live h x v):=by
 simp only[Dk,if_true,rE]
 cases live h x v with
 | none=>rfl
 | some r =>
  simp only[Rl]
  cases cn h rest with
  | none=>rfl
  | some p=>rfl
theorem A1 {r:Row} : Rl Γ h e dst g x v d0 rest (some r)=if r.fz=false then Rm Γ h e dst g x v d0 { r with v:=0 } (cn h rest) else none:=Eq.trans rfl rfl
theorem A2 {r:Row} : Rm Γ h e dst g x v d0 r (some (Zo,fr))=if fr.contains x=false then Ij h e dst x v fr (Γ.sem g (some (d0,r)) Zo) else none:=Eq.trans rfl rfl
theorem yL {c:D} {v' ty:Nat} {cells:List D} {fz lst:Bool} : Ij h e dst x v fr (some (.clean c,some ⟨v',ty,cells,fz,lst,false⟩))=some ⟨c,iC h fr++[(x,some ⟨v,ty,cells,fz,lst,false⟩)]⟩:=Eq.trans rfl rfl
theorem A3 {s o n v' ty:Nat} {cells:List D} {fz lst:Bool} : Ij h e dst x v fr (some (.same s o n,some ⟨v',ty,cells,fz,lst,false⟩))=some ⟨.buf x v s o n,iC h fr++[(x,some ⟨v,ty,cells,fz,lst,false⟩)]⟩:=Eq.trans rfl rfl
theorem yM {s n ty:Nat} {cells:List D} : Ij h e (some d) x v fr (some (.fresh ty s n cells,none))=if fr.contains d=false then some ⟨.buf d e s 0 n,iC h fr++[(x,none),(d,some ⟨e,ty,cells,false,true,false⟩)]⟩ else none:=Eq.trans rfl rfl
theorem zb {ty sz i:Nat} {t:Nat→D} {l:D×Row} : gj (.fresh ty sz) T (some l) [.tmp i] ⟨t,h,e⟩=lq ty sz h (t i):=Eq.trans rfl rfl
def W6 (y v s o:Nat):Option Row→Option Ty→Option (Nat×Nat)→Option dL
 | some _,some φ,some (l,k)=>if φ.size=s∧0<s then some ⟨.buf y v s (o+l*s) (k-l),[]⟩ else none
 | _,_,_=>none
theorem E7 {y v s o l k:Nat} {r:Row} {φ:Ty} : W6 y v s o (some r) (some φ) (some (l,k))=if φ.size=s∧0<s then some ⟨.buf y v s (o+l*s) (k-l),[]⟩ else none:=Eq.trans rfl rfl
theorem Oi {el b c y v s o n:Nat} {z:List Value} {q:Bool} {lo hi:Option D} : cF T ⟨.slice el,b,c,z,q⟩ h (.buf y v s o n) lo hi none=W6 y v s o (live h y v) (T el) (sD n lo hi):=by
 simp only[cF]
 cases live h y v with
 | none=>rfl
 | some r =>
  simp only
  cases T el with
  | none=>rfl
  | some φ =>
   cases sD n lo hi with
   | none=>rfl
   | some p=>rfl
def Wc (ty:Nat):Option (List D×List Nat)→Option Row→Option (RK×Option Row)
 | some (ds,fr),some r=>if r.v=0∧r.fz=false∧r.ty=ty∧r.mp=false∧fr.contains 0=false then some (.clean (pA ds),some r) else none
 | _,_=>none
theorem E4 {ty:Nat} {ds:List D} {r:Row} : Wc ty (some (ds,fr)) (some r)=if r.v=0∧r.fz=false∧r.ty=ty∧r.mp=false∧fr.contains 0=false then some (.clean (pA ds),some r) else none:=Eq.trans rfl rfl
theorem E5 {t:Nat→D} {ty v:Nat} {cells:List D} {fz lst:Bool} : gj .clean T (some (d0,⟨v,ty,cells,fz,lst,false⟩)) rs ⟨t,h,e⟩=Wc ty (vT T ⟨t,h,e⟩ rs) (h 0):=by
 simp only[gj,sV,kC,UN,Wc]
 cases vT T ⟨t,h,e⟩ rs with
 | none=>rfl
 | some p =>
  obtain⟨ds,fr⟩:=p
  cases h 0 with
  | none=>rfl
  | some r =>
   simp only
   by_cases h1:r.v=0∧r.fz=false∧r.ty=ty∧r.mp=false
   ·rw[if_pos h1]
    simp only[Bool.not_eq_true']
    by_cases h2:fr.contains 0=false
    ·rw[if_pos h2,if_pos ⟨h1.1,h1.2.1,h1.2.2.1,h1.2.2.2,h2⟩]
    ·rw[if_neg h2,if_neg (fun hh=>h2 hh.2.2.2.2)]
   ·rw[if_neg h1,if_neg (fun hh=>h1 ⟨hh.1,hh.2.1,hh.2.2.1,hh.2.2.2.1⟩)]
def Uw (ty:Nat):D→Option Row→Option (RK×Option Row)
 | .buf 0 0 s o n,some r=>if r.v=0∧r.fz=false∧r.ty=ty∧r.mp=false then some (.same s o n,some r) else none
 | _,_=>none
theorem Jb {ty s o n:Nat} {r:Row} : Uw ty (.buf 0 0 s o n) (some r)=if r.v=0∧r.fz=false∧r.ty=ty∧r.mp=false then some (.same s o n,some r) else none:=Eq.trans rfl rfl
theorem E6 {t:Nat→D} {ty v i:Nat} {cells:List D} {fz lst:Bool} : gj .same T (some (d0,⟨v,ty,cells,fz,lst,false⟩)) [.tmp i] ⟨t,h,e⟩=Uw ty (t i) (h 0):=by
 simp only[gj,Ar,kC]
 generalize t i=q
 cases q with
 | buf a b s o n =>
  cases h 0 with
  | none=>rcases a with _|a<;>rcases b with _|b<;>rfl
  | some r =>
   simp only
   by_cases h1:r.v=0∧r.fz=false∧r.ty=ty∧r.mp=false
   ·rcases a with _|a<;>rcases b with _|b<;>simp[Uw,h1]
   ·rcases a with _|a<;>rcases b with _|b<;>simp[Uw,h1]
 | _=>rfl
end
section
variable {α:Type} (E:jJ α) {l m u x:List α} {y y':α} {i a b:Int} {pre post:List D}
theorem Va (h:CV l a b=some x):ab E (l.take a.toNat)++(ab E x++ab E (l.drop b.toNat))=ab E l:=by
 unfold CV at h
 split at h
 ·rename_i hc
  cases h
  rw[← fN,← fN]
  congr 1
  have e:l.drop b.toNat=(l.drop a.toNat).drop (b.toNat-a.toNat):=by rw[List.drop_drop];congr 1;omega
  rw[e,List.take_append_drop,List.take_append_drop]
 ·cases h
theorem Vb (h:CV l a b=some x):(ab E (l.take a.toNat)).length=a.toNat*E.size:=by
 unfold CV at h
 split at h
 ·rw[cN,List.length_take,Nat.min_eq_left (by omega)]
 ·cases h
theorem VU (h:CV l a b=some x):x.length=b.toNat-a.toNat:=by
 unfold CV at h
 split at h
 ·cases h
  simp
  omega
 ·cases h
theorem U9:ab E (l.take i.toNat)++(ab E u++ab E (l.drop b.toNat))=ab E (l.take i.toNat++(u++l.drop b.toNat)):=by rw[fN,fN]
theorem Sb (h:P.idx l i=some y):(pre++(ab E l++post)).drop (pre.length+i.toNat*E.size)=E.cells y++(ab E (l.drop (i.toNat+1))++post):=by
 rw[← List.drop_drop,List.drop_left,List.drop_append_of_le_length (by rw[cN];have:=ui E h;omega),wV E h,List.append_assoc]
theorem Sc (h:P.idx l i=some y):pre.length+i.toNat*E.size+E.size≤(pre++(ab E l++post)).length:=by
 have:=ui E h
 rw[List.length_append,List.length_append,cN]
 omega
theorem s7 (h:P.idx l i=some y):(0≤i∧i<l.length)∧(pre++(ab E l++post)).drop (pre.length+i.toNat*E.size)=E.cells y++(ab E (l.drop (i.toNat+1))++post)∧pre.length+i.toNat*E.size+E.size≤(pre++(ab E l++post)).length:=⟨s8 h,Sb E h,Sc E h⟩
theorem xa (h:P.idx l i=some y):putCells (pre++(ab E l++post)) (pre.length+i.toNat*E.size) (E.cells y')=pre++(ab E (l.set i.toNat y')++post):=by
 have h1:=SP E (x':=y') h
 have hf:=ui E h
 have hl:=cN E l
 unfold putCells at h1 ⊢
 rw[← h1,E.len]
 have e1:(pre++(ab E l++post)).take (pre.length+i.toNat*E.size)=pre++(ab E l).take (i.toNat*E.size):=by
  rw[List.take_append,List.take_of_length_le (by omega),Nat.add_sub_cancel_left,List.take_append_of_le_length (by omega)]
 have e2:(pre++(ab E l++post)).drop (pre.length+i.toNat*E.size+E.size)=(ab E l).drop (i.toNat*E.size+E.size)++post:=by
  rw[Nat.add_assoc,List.drop_append,List.drop_eq_nil_of_le (by omega),Nat.add_sub_cancel_left,List.nil_append,List.drop_append_of_le_length (by omega)]
 rw[e1,e2]
 simp only[List.append_assoc]
theorem T0 (h:CV l a b=some x) (hu:u.length=x.length):(l.take a.toNat++(u++l.drop b.toNat)).length=l.length:=by
 have hn:=VU h
 unfold CV at h
 split at h
 ·simp only[List.length_append,List.length_take,List.length_drop]
  omega
 ·cases h
theorem UY (h:CV l 0 b=some x):pre.length+x.length*E.size≤(pre++(ab E l++post)).length∧((pre++(ab E l++post)).drop pre.length).take (x.length*E.size)=ab E x:=by
 obtain⟨h1,h2,h3,h4,h5⟩:=CW E h
 have:=Nat.mul_le_mul_right E.size h3
 refine⟨by rw[List.length_append,List.length_append,cN];omega,?_⟩
 rw[List.drop_left,List.take_append_of_le_length (by rw[cN];exact this),h5]
end
section
variable {h:Nat→Option Row} {Γ:Env} {e:Nat} {dst:Option Nat}
def YU:Option (D×List Nat)→Option (List D×List Nat)→Option (List D×List Nat)
 | some (d,fr),some (ds,fr')=>some (d::ds,fr++fr')
 | _,_=>none
theorem Ii {d:D} {ds:List D} {fr fr':List Nat} : YU (some (d,fr)) (some (ds,fr'))=some (d::ds,fr++fr'):=Eq.trans rfl rfl
theorem Iw:cT h []=some ([],[]):=Eq.trans rfl rfl
theorem Ez {d:D} {ds:List D} : cT h (d::ds)=YU (aT h d) (cT h ds):=by
 simp only[cT]
 cases aT h d with
 | none=>rfl
 | some x=>cases cT h ds<;>rfl
theorem N2 {k:IntKind} {n:Int} : aT h (.int k n)=some (.int k n,[]):=Eq.trans rfl rfl
theorem Iv {b:Bool} : aT h (.bool b)=some (.bool b,[]):=Eq.trans rfl rfl
theorem N5 {b:ByteArray} : aT h (.str b)=some (.str b,[]):=Eq.trans rfl rfl
theorem Rt {a b:Bool} {n:Nat} {xs:List D} : aT h (.sl a b n xs)=some (.sl false false n xs,[]):=Eq.trans rfl rfl
theorem N1 {xs:List D} : aT h (.agg xs)=some (.agg (xs.map canon),[]):=Eq.trans rfl rfl
theorem Rp {f:Nat} : aT h (.fn f)=some (.fn f,[]):=Eq.trans rfl rfl
def YV (f k:Nat):Option (List D×List Nat)→Option (D×List Nat)
 | some (ys,fr)=>some (.clo f k ys,fr)
 | none=>none
theorem IG {f k:Nat} {ys:List D} {fr:List Nat} : YV f k (some (ys,fr))=some (.clo f k ys,fr):=Eq.trans rfl rfl
theorem IA {f k:Nat} {xs:List D} : b7 h (.clo f k xs)=YV f k (cT h xs):=by
 simp only[b7]
 cases cT h xs<;>rfl
theorem Is {g k:Nat} {caps args:List D} : gn Γ h e dst (.clo g k caps) args=if caps.all iE then Dk false Γ h e dst g (caps.take k++(args++caps.drop k)) else none:=by
 simp only[gn,Dk,Bool.false_eq_true,if_false]
theorem OM {k:IntKind} {n:Int} : iE (.int k n)=true:=Eq.trans rfl rfl
theorem KM {b:Bool} : iE (.bool b)=true:=Eq.trans rfl rfl
theorem OP {b:ByteArray} : iE (.str b)=true:=Eq.trans rfl rfl
theorem SG {a b:Bool} {n:Nat} {xs:List D} : iE (.sl a b n xs)=true:=Eq.trans rfl rfl
theorem OL {xs:List D} : iE (.agg xs)=true:=Eq.trans rfl rfl
theorem SC {f:Nat} : iE (.fn f)=true:=Eq.trans rfl rfl
end
theorem CH:pA []=.tup []:=Eq.trans rfl rfl
def YT (f:Nat):Arg Unit:=⟨fun _ =>.fn f,fun _ _ _=>rfl⟩
def Q1 {α:Type} (f k:Nat) (a:mr α):Arg α:=⟨fun x =>.clo f k (a.ds x),fun x y h=>a.inj _ _ (by simpa using h)⟩
theorem Y6:type_of% (ai @Ii<|ai @Iw<|ai @Ez<|ai @N2<|ai @Iv<|ai @N5<|ai @Rt<|ai @N1<|ai @Rp<|ai @IG<|ai @IA<|ai @Is<|ai @OM<|ai @KM<|ai @OP<|ai @SG<|ai @OL<|ai @SC<|ai @CH<|ai @wy<|ai @wB<|@Ao):=⟨@Ii,@Iw,@Ez,@N2,@Iv,@N5,@Rt,@N1,@Rp,@IG,@IA,@Is,@OM,@KM,@OP,@SG,@OL,@SC,@CH,@wy,@wB,@Ao⟩
theorem Y5:type_of% (ai @K0<|ai @List.contains_cons.{0}<|ai @Oi<|ai @E7<|ai @yM<|ai @zb<|ai @Ik<|ai @A1<|ai @A2<|ai @yL<|ai @A3<|ai @E4<|ai @E5<|ai @Jb<|@E6):=⟨@K0,@List.contains_cons.{0},@Oi,@E7,@yM,@zb,@Ik,@A1,@A2,@yL,@A3,@E4,@E5,@Jb,@E6⟩
section
variable {T:Nat→Option Ty} {h:Nat→Option Row} {τ:Ty} {q:Nat→Bool}
theorem Sl {x v o:Nat} : l5 τ h (.ptr x v o)=nT τ h x v o (live h x v):=Eq.trans rfl rfl
theorem Vr {xs:List D} : l5 τ h (.ip xs)=dy τ h (.ip xs):=Eq.trans rfl rfl
theorem Vp {x v o v' ty:Nat} {c:List D} {fz:Bool} : nT τ h x v o (some ⟨v',ty,c,fz,true,false⟩)=dy τ h (.ptr x v o):=by
 simp only[nT,Bool.not_true,Bool.and_false,Bool.false_eq_true,if_false]
theorem Vq {x v o v' ty:Nat} {c:List D} {lst:Bool} : nT τ h x v o (some ⟨v',ty,c,false,lst,false⟩)=dy τ h (.ptr x v o):=by
 simp only[nT,Bool.false_and,Bool.false_eq_true,if_false]
def YF:Option D→Option dL→Option dL
 | some d,_=>some ⟨d,[]⟩
 | none,E=>E
theorem JU {d:D} {E:Option dL} : YF (some d) E=some ⟨d,[]⟩:=Eq.trans rfl rfl
theorem JT {E:Option dL} : YF none E=E:=Eq.trans rfl rfl
theorem Vo {x v o v' ty:Nat} {c:List D} : nT τ h x v o (some ⟨v',ty,c,true,false,false⟩)=if o+τ.size≤c.length then YF (LP τ.ds.ot ((c.drop o).take τ.size)) (dy τ h (.ptr x v o)) else none:=by
 simp only[nT,Bool.not_false,Bool.and_self,if_true]
 cases LP τ.ds.ot ((c.drop o).take τ.size)<;>rfl
theorem Q8 {x v s o n:Nat} : LP true [.ali x v s o n]=some (.box1 x v s o n):=Eq.trans rfl rfl
theorem Q7 {x v s o n:Nat} : LP false [.ali x v s o n]=some (.buf x v s o n):=Eq.trans rfl rfl
theorem O5 {p:D} {k:IntKind} {n:Int} : cZ τ h p (.int k n)=cM τ h p (.int k n):=Eq.trans rfl rfl
theorem Lk {p:D} {b:Bool} : cZ τ h p (.bool b)=cM τ h p (.bool b):=Eq.trans rfl rfl
theorem O7 {p:D} {b:ByteArray} : cZ τ h p (.str b)=cM τ h p (.str b):=Eq.trans rfl rfl
theorem Td {p:D} {a b:Bool} {n:Nat} {xs:List D} : cZ τ h p (.sl a b n xs)=cM τ h p (.sl a b n xs):=Eq.trans rfl rfl
theorem O6 {p:D} {x v o:Nat} : cZ τ h p (.ptr x v o)=cM τ h p (.ptr x v o):=Eq.trans rfl rfl
theorem Ta {p:D} {xs:List D} : cZ τ h p (.ip xs)=cM τ h p (.ip xs):=Eq.trans rfl rfl
theorem O3 {p:D} {x v s o n:Nat} : cZ τ h p (.buf x v s o n)=cM τ h p (.buf x v s o n):=Eq.trans rfl rfl
theorem O1 {p:D} {xs:List D} : cZ τ h p (.agg xs)=cM τ h p (.agg xs):=Eq.trans rfl rfl
theorem S9 {p:D} {f:Nat} : cZ τ h p (.fn f)=cM τ h p (.fn f):=Eq.trans rfl rfl
theorem O4 {p:D} {f k:Nat} {xs:List D} : cZ τ h p (.clo f k xs)=cM τ h p (.clo f k xs):=Eq.trans rfl rfl
theorem O8 {p:D}  : cZ τ h p (.und)=cM τ h p (.und):=Eq.trans rfl rfl
def XF (τ:Ty) (x o y vy s oy n:Nat):Option Row→Option dL
 | some r=>if τ.size=1∧o=0∧r.cells.length=1∧r.fz=false∧r.lst=false then some ⟨.und,[(x,some ⟨r.v,r.ty,[.ali y vy s oy n],true,false,false⟩)]⟩ else none
 | none=>none
theorem Gd {x o y vy s oy n:Nat} {r:Row} : XF τ x o y vy s oy n (some r)=if τ.size=1∧o=0∧r.cells.length=1∧r.fz=false∧r.lst=false then some ⟨.und,[(x,some ⟨r.v,r.ty,[.ali y vy s oy n],true,false,false⟩)]⟩ else none:=Eq.trans rfl rfl
theorem O2 {x v o y vy s oy n:Nat} : cZ τ h (.ptr x v o) (.box1 y vy s oy n)=XF τ x o y vy s oy n (live h x v):=by
 simp only[cZ]
 cases live h x v<;>rfl
def Ie (b:Bool) (T:Nat→Option Ty) (τ:Ty) (h:Nat→Option Row) (ps:List (Nat×D)):Option dL :=
 if b then eE T τ h ps else
  match τ.ds,ps with
  | .struct fs,[(0,.buf x v s o n)]=>if (alive h (.buf x v s o n))∧(fs.all fun f=>(T f.1).isSome)∧fieldAt T fs 0=some (0,1)∧τ.zero.length=1 then some ⟨.box1 x v s o n,[]⟩ else none
  | .struct fs,[(0,.box1 x v s o n)]=>if (alive h (.buf x v s o n))∧(fs.all fun f=>(T f.1).isSome)∧fieldAt T fs 0=some (0,1)∧τ.zero.length=1 then some ⟨.box1 x v s o n,[]⟩ else none
  | _,_=>cE (eE T τ h ps)
theorem NX {d:Nat} {ps:List (Nat×D)} : nQ q T τ h (some d) ps=Ie (q d) T τ h ps:=Eq.trans rfl rfl
theorem Ej:Ie false T τ h []=cE (eE T τ h []):=by
 unfold Ie
 rw[if_neg (by simp)]
 cases τ.ds<;>rfl
theorem Ri {cs:List D} {hw:List (Nat×Option Row)} : cE (some ⟨.agg cs,hw⟩)=some ⟨.agg (cs.map canon),hw⟩:=Eq.trans rfl rfl
theorem Ek {ps:List (Nat×D)} : Ie true T τ h ps=eE T τ h ps:=Eq.trans rfl rfl
def Rf (T:Nat→Option Ty) (h:Nat→Option Row) (nz x v s o n:Nat):Ds→Option dL
 | .struct fs=>if (alive h (.buf x v s o n))∧(fs.all fun f=>(T f.1).isSome)∧fieldAt T fs 0=some (0,1)∧nz=1 then some ⟨.box1 x v s o n,[]⟩ else none
 | _=>none
theorem Rg {nz x v s o n:Nat} {fs:List (Nat×Nat)} : Rf T h nz x v s o n (.struct fs)=if (alive h (.buf x v s o n))∧(fs.all fun f=>(T f.1).isSome)∧fieldAt T fs 0=some (0,1)∧nz=1 then some ⟨.box1 x v s o n,[]⟩ else none:=Eq.trans rfl rfl
theorem Ig {x v s o n:Nat} : Ie false T τ h [(0,.box1 x v s o n)]=Rf T h τ.zero.length x v s o n τ.ds:=by
 unfold Ie Rf eE
 rw[if_neg (by simp)]
 cases τ.ds<;>rfl
theorem AW {x v s o n:Nat} : Ie false T τ h [(0,.buf x v s o n)]=Rf T h τ.zero.length x v s o n τ.ds:=by
 unfold Ie Rf eE
 rw[if_neg (by simp)]
 cases τ.ds<;>rfl
def YB:Option (D×List Nat)→Option (D×List Nat)
 | some (d,fr)=>some (.agg [d],fr)
 | none=>none
theorem IM {d:D} {fr:List Nat} : YB (some (d,fr))=some (.agg [d],fr):=Eq.trans rfl rfl
theorem Iy {x v s o n:Nat} : b7 h (.box1 x v s o n)=YB (Up x s o n (live h x v)):=by
 simp only[b7,aT,dw]
 cases live h x v with
 | none=>rfl
 | some r=>by_cases hc:o+n*s≤r.cells.length<;>simp[Up,YB,hc,canon]
theorem Sy {x v s o n:Nat} : nm (.box1 x v s o n)=[x]:=Eq.trans rfl rfl
theorem Ec {x v s o n:Nat} : alive h (.buf x v s o n)=(live h x v).isSome:=Eq.trans rfl rfl
theorem Fc {fs:List (Nat×Nat)} {ft off:Nat} : fieldAt T ((ft,off)::fs) 0=(T ft).map fun φ=>(off,φ.size):=by
 simp only[fieldAt,List.getElem?_cons_zero]
 cases T ft<;>rfl
end
theorem Y7:type_of% (ai @Sl<|ai @Vr<|ai @Vp<|ai @Vq<|ai @JU<|ai @JT<|ai @Vo<|ai @Q8<|ai @Q7<|ai @O5<|ai @Lk<|ai @O7<|ai @Td<|ai @O6<|ai @Ta<|ai @O3<|ai @O1<|ai @S9<|ai @O4<|ai @O8<|ai @O2<|ai @Gd<|ai @NX<|ai @Ek<|ai @Rg<|ai @AW<|ai @Ej<|ai @Ig<|ai @Ri<|ai @IM<|ai @Iy<|ai @Sy<|ai @Ec<|@Fc):=⟨@Sl,@Vr,@Vp,@Vq,@JU,@JT,@Vo,@Q8,@Q7,@O5,@Lk,@O7,@Td,@O6,@Ta,@O3,@O1,@S9,@O4,@O8,@O2,@Gd,@NX,@Ek,@Rg,@AW,@Ej,@Ig,@Ri,@IM,@Iy,@Sy,@Ec,@Fc⟩
theorem v:type_of% (ai @Y8<|ai @Y9<|ai @Y0<|ai @Y1<|ai @Y2<|ai @Y3<|ai @Y4<|ai @Y5<|ai @Y6<|ai @Y7<|ai @Yc<|ai @Zj<|ai @Option.toList_some.{0}<|@Option.toList_none.{0}):=⟨@Y8,@Y9,@Y0,@Y1,@Y2,@Y3,@Y4,@Y5,@Y6,@Y7,@Yc,@Zj,@Option.toList_some.{0},@Option.toList_none.{0}⟩
def Ck {α:Type} : List (Int×α)→List Int
 | []=>[]
 | (k,_)::m=>k::Ck m
def Qi {α:Type} (A:Arg α):List (Int×α)→List D
 | []=>[]
 | (_,v)::m=>A.d v::Qi A m
section
variable {α:Type} {A:Arg α}
theorem Kp:Ck ([]:List (Int×α))=[]:=Eq.trans rfl rfl
theorem Ku:Qi A []=[]:=Eq.trans rfl rfl
theorem Ko (n:Int):∀m:List (Int×α),(Ck m).contains n=UA m n
 | []=>rfl
 | (k,v)::m=>by
  have:=Ko n m
  simp only[Ck,List.contains_cons,UA,this]
  congr 1
  exact Bool.beq_comm
theorem map_inj:∀ {m m':List (Int×α)},Ck m=Ck m'→Qi A m=Qi A m'→m=m'
 | [],[],_,_=>rfl
 | [],(k,v)::m',h,_=>by simp[Ck]at h
 | (k,v)::m,[],h,_=>by simp[Ck]at h
 | (k,v)::m,(k',v')::m',h,g=>by
  simp only[Ck,List.cons.injEq]at h
  simp only[Qi,List.cons.injEq]at g
  rw[h.1,A.inj _ _ g.1,map_inj h.2 g.2]
end
def Zl {α:Type} (A:Arg α):jJ (List (Int×α)):=⟨fun m=>[.mpc (Ck m) (Qi A m)],1,fun _=>rfl,by decide,fun x y h=>by
 simp only[List.cons.injEq,D.mpc.injEq,and_true]at h
 exact map_inj h.1 h.2⟩
theorem I7 {α:Type} (A:Arg α):(Zl A).size=1:=Eq.trans rfl rfl
def Q2 {α:Type} (e:jJ α):Arg α:=⟨fun x =>.ip (e.cells x),fun x y h=>e.inj _ _ (by simpa using h)⟩
theorem Vi {α:Type} (e:jJ α) (x:α):(Q2 e).d x=.ip (e.cells x):=Eq.trans rfl rfl
section
variable {T:Nat→Option Ty} {h:Nat→Option Row} {Γ:Env} {e:Nat} {dst:Option Nat}
def Yp (v:Nat):Option Row→Option (List Int×List D)
 | some r=>if r.v=v∧r.mp=true then (match r.cells with | [.mpc ks vs]=>some (ks,vs)|_=>none) else none
 | none=>none
theorem JZ {x v:Nat} : gJ h x v=Yp v (h x):=by
 unfold gJ Yp
 cases h x<;>rfl
theorem J2 {v ty:Nat} {ks:List Int} {vs:List D} {fz lst:Bool} : Yp v (some ⟨v,ty,[.mpc ks vs],fz,lst,true⟩)=some (ks,vs):=by simp[Yp]
def YH (ks:List Int) (n:Int):Bool:=ks.contains n
theorem OC {α:Type} {m:List (Int×α)} {n:Int} : YH (Ck m) n=UA m n:=Ko n m
def YX (ok:Bool) (z:D) (n:Int):Option (List Int×List D)→Option dL
 | some (ks,vs)=>some ⟨if ok then .tup [rM z ks vs n,.bool (YH ks n)] else rM z ks vs n,[]⟩
 | none=>none
theorem VI {z:D} {n:Int} {ks:List Int} {vs:List D} : YX true z n (some (ks,vs))=some ⟨.tup [rM z ks vs n,.bool (YH ks n)],[]⟩:=Eq.trans rfl rfl
theorem VH {z:D} {n:Int} {ks:List Int} {vs:List D} : YX false z n (some (ks,vs))=some ⟨rM z ks vs n,[]⟩:=Eq.trans rfl rfl
theorem Kr {x v:Nat} : mapOf h (.mp x v)=gJ h x v:=Eq.trans rfl rfl
theorem Ft {ks:List Int} {vs:List D} : mapOf h (.mpc ks vs)=some (ks,vs):=Eq.trans rfl rfl
def Yr (h:Nat→Option Row) (y:Nat) (n:Int) (d:D) (fr:List Nat) (ks:List Int) (vs:List D):Option Row→Option dL
 | some r=>if r.fz=false∧fr.contains y=false then some ⟨.und,iC h fr++[(y,some ⟨r.v,r.ty,[.mpc (Ae ks n) (HE ks vs n d)],false,true,true⟩)]⟩ else none
 | none=>none
theorem KA {y v ty:Nat} {n:Int} {d:D} {fr:List Nat} {ks:List Int} {vs:List D} {cells:List D} {lst mp:Bool} : Yr h y n d fr ks vs (some ⟨v,ty,cells,false,lst,mp⟩)=if fr.contains y=false then some ⟨.und,iC h fr++[(y,some ⟨v,ty,[.mpc (Ae ks n) (HE ks vs n d)],false,true,true⟩)]⟩ else none:=by
 simp only[Yr,true_and]
def YI (h:Nat→Option Row) (y:Nat) (n:Int) (d:D) (fr:List Nat):Option (List Int×List D)→Option dL
 | some (ks,vs)=>Yr h y n d fr ks vs (h y)
 | none=>none
theorem Kz {y:Nat} {n:Int} {d:D} {fr:List Nat} {ks:List Int} {vs:List D} : YI h y n d fr (some (ks,vs))=Yr h y n d fr ks vs (h y):=Eq.trans rfl rfl
def Zm (h:Nat→Option Row) (y v:Nat) (n:Int):Option (D×List Nat)→Option dL
 | some (d,fr)=>YI h y n d fr (gJ h y v)
 | none=>none
theorem Ky {y v:Nat} {n:Int} {d:D} {fr:List Nat} : Zm h y v n (some (d,fr))=YI h y n d fr (gJ h y v):=Eq.trans rfl rfl
theorem Lv {k:IntKind} {n:Int} : vY h (.int k n)=some (.int k n,[]):=Eq.trans rfl rfl
theorem Gn {b:Bool} : vY h (.bool b)=some (.bool b,[]):=Eq.trans rfl rfl
theorem Lu {xs:List D} : vY h (.agg xs)=some (.agg (xs.map canon),[]):=Eq.trans rfl rfl
def Yn (τ:Ty) (h:Nat→Option Row) (x v y:Nat):Option Row→Option dL
 | some r=>match r.cells with
  | [.alm y' v']=>if r.fz=true∧r.lst=false∧τ.size=1∧τ.ds.ot=false then some ⟨.mp y' v',[]⟩ else none
  | _=>none
 | none=>nS τ h x v y (j7 h x v)
theorem Vs {τ:Ty} {x v y:Nat} : l5 τ h (.pm x v y)=Yn τ h x v y (live h x v):=by
 simp only[l5]
 cases live h x v with
 | none=>rfl
 | some r =>
  obtain⟨v',ty,cells,fz,lst,mp⟩:=r
  rcases cells with _|⟨c,_|⟨c',cs⟩⟩<;>rfl
theorem JV {τ:Ty} {x v y:Nat} : Yn τ h x v y none=nS τ h x v y (j7 h x v):=Eq.trans rfl rfl
def Yo (τ:Ty) (h:Nat→Option Row) (x y s n:Nat):Option Row→Option dL
 | some r=>if y=1000000+x∧r.mp=false∧r.lst=true∧r.cells.length=n*s∧τ.size=1 then some ⟨if τ.ds.ot then .agg [.sl false false n r.cells] else .sl false false n r.cells,iC h [y]⟩ else none
 | none=>none
theorem Sk {τ:Ty} {r:Row} {x v y s n:Nat} : nS τ h x v y (some (r,y,s,n))=Yo τ h x y s n (h y):=by
 simp only[nS,Yo,PK]
 cases h y with
 | none=>rfl
 | some q=>simp
theorem JX {ty b:Nat} {ds:Ds} {z:List Value} {q:Bool} {x y s n e':Nat} {cells:List D} {fz:Bool} : Yo ⟨ds,1,b,z,q⟩ h x y s n (some ⟨e',ty,cells,fz,true,false⟩)=if y=1000000+x∧cells.length=n*s then some ⟨if ds.ot then .agg [.sl false false n cells] else .sl false false n cells,iC h [y]⟩ else none:=by
 simp[Yo]
def Wd (T:Nat→Option Ty) (x v k:Nat):Option (Row×Nat×Nat×Nat)→Option (Nat×Nat)→Option dL
 | some _,some (ft,0)=>match T ft with|some φ=>if φ.size=0 then none else some ⟨.pm x v k,[]⟩|none=>none
 | _,_=>none
theorem Fi {T:Nat→Option Ty} {x v k ft:Nat} {r:Row×Nat×Nat×Nat} : Wd T x v k (some r) (some (ft,0))=match T ft with|some φ=>if φ.size=0 then none else some ⟨.pm x v k,[]⟩|none=>none:=Eq.trans rfl rfl
theorem RZ {T:Nat→Option Ty} {b c:Nat} {z:List Value} {q:Bool} {fs:List (Nat×Nat)} {x v k i:Nat} : dG T ⟨.struct fs,b,c,z,q⟩ h i (.pm x v k)=Wd T x v k (j7 h x v) fs[i]?:=by
 simp only[dG,Wd]
 cases j7 h x v with
 | none=>rfl
 | some r=>simp only;generalize fs[i]? = z;rcases z with _|⟨ft,_|off⟩<;>first|rfl|(simp;done)|(simp only;cases T ft<;>rfl)
def O0 (x y s oy n k : Nat) : Option Row → Option Row → Option dL
  | some r, some q => if oy = 0 ∧ r.cells.length = 1 ∧ r.fz = false ∧ r.lst = false ∧ q.fz = false ∧ q.lst = true ∧ q.cells.length = n * s ∧ x ≠ y ∧ k = 1000000 + x then
          some ⟨.und, [(y, none), (k, some ⟨0, q.ty, q.cells, false, true, false⟩), (x, some ⟨r.v, r.ty, [.ph k s n], false, false, true⟩)]⟩ else none
  | _, _ => none
theorem Tc {ds:Ds} {b:Nat} {z:List Value} {q:Bool} {x v y vy s oy n k:Nat} : cZ ⟨ds,1,b,z,q⟩ h (.pm x v k) (.box1 y vy s oy n)=O0 x y s oy n k (live h x v) (live h y vy):=by
 simp only[cZ,O0,PK,true_and]
 cases live h x v with
 | none=>rfl
 | some r=>cases live h y vy<;>rfl
theorem CZ {x y s oy n k v ty e' ty':Nat} {c:D} {cells:List D} : O0 x y s oy n k (some ⟨v,ty,[c],false,false,false⟩) (some ⟨e',ty',cells,false,true,false⟩)=if oy=0∧cells.length=n*s∧¬x=y∧k=1000000+x then
  some ⟨.und,[(y,none),(k,some ⟨0,ty',cells,false,true,false⟩),(x,some ⟨v,ty,[.ph k s n],false,false,true⟩)]⟩ else none:=by
 simp[O0]
theorem JW {v ty y' v':Nat} {b k el:Nat} {z:List Value} {q mp:Bool} {x0 v0 y0:Nat} : Yn ⟨.map k el,1,b,z,q⟩ h x0 v0 y0 (some ⟨v,ty,[.alm y' v'],true,false,mp⟩)=some ⟨.mp y' v',[]⟩:=by
 simp[Yn,Ds.ot]
def U2 (τ:Ty) (x y y' v':Nat) (m:Bool):Option Row→Option dL
 | some r=>if τ.size=1∧y'=y∧r.cells.length=1∧r.fz=false∧r.lst=false∧m then some ⟨.und,[(x,some ⟨r.v,r.ty,[.alm y' v'],true,false,false⟩)]⟩ else none
 | none=>none
theorem Tb {τ:Ty} {x v y y' v':Nat} : cZ τ h (.pm x v y) (.mp y' v')=U2 τ x y y' v' (gJ h y v').isSome (live h x v):=by
 simp only[cZ,U2]
 cases live h x v<;>rfl
theorem Gc {x y v' v ty:Nat} {c:D} {b:Nat} {ds:Ds} {z:List Value} {q mp:Bool} : U2 ⟨ds,1,b,z,q⟩ x y y v' true (some ⟨v,ty,[c],false,false,mp⟩)=some ⟨.und,[(x,some ⟨v,ty,[.alm y v'],true,false,false⟩)]⟩:=by
 simp[U2]
theorem VM {x v:Nat} : nm (.mp x v)=[x]:=Eq.trans rfl rfl
theorem Sz {ks:List Int} {vs:List D} : nm (.mpc ks vs)=[]:=Eq.trans rfl rfl
theorem VN {x v y:Nat} : nm (.pm x v y)=[x,y]:=Eq.trans rfl rfl
def W2 (x:Nat):Option (List Int×List D)→Option (D×List Nat)
 | some (ks,vs)=>some (.mpc ks vs,[x])
 | none=>none
theorem II {x:Nat} {ks:List Int} {vs:List D} : W2 x (some (ks,vs))=some (.mpc ks vs,[x]):=Eq.trans rfl rfl
theorem N8 {x v:Nat} : b7 h (.mp x v)=W2 x (gJ h x v):=by
 simp only[b7,aT,W2]
 cases gJ h x v<;>rfl
theorem IC {ks:List Int} {vs:List D} : b7 h (.mpc ks vs)=some (.mpc ks vs,[]):=Eq.trans rfl rfl
theorem Rr {x v:Nat} : aT h (.mp x v)=W2 x (gJ h x v):=by
 simp only[aT,W2]
 cases gJ h x v<;>rfl
theorem N3 {ks:List Int} {vs:List D} : aT h (.mpc ks vs)=some (.mpc ks vs,[]):=Eq.trans rfl rfl
theorem Rq {xs:List D} : aT h (.ip xs)=some (.ip xs,[]):=Eq.trans rfl rfl
theorem N4 {x v o:Nat} : aT h (.ptr x v o)=W4 x o (live h x v):=by
 simp only[aT]
 cases live h x v with
 | none=>rfl
 | some r=>simp only[W4]
def Yz (x y:Nat):Option (List Int×List D)→Option (D×List Nat)
 | some (ks,vs)=>some (.ip [.mpc ks vs],[x,y])
 | none=>none
theorem IJ {x y:Nat} {ks:List Int} {vs:List D} : Yz x y (some (ks,vs))=some (.ip [.mpc ks vs],[x,y]):=Eq.trans rfl rfl
def YA (h:Nat→Option Row) (x y:Nat):Option Row→Option (D×List Nat)
 | some r=>match r.cells with
  | [.alm y' v']=>if r.fz=true∧r.lst=false∧y'=y then Yz x y (gJ h y v') else none
  | _=>none
 | none=>none
theorem IL {x y v' v ty:Nat} {mp:Bool} : YA h x y (some ⟨v,ty,[.alm y v'],true,false,mp⟩)=Yz x y (gJ h y v'):=by
 simp[YA]
theorem Rs {x v y:Nat} : aT h (.pm x v y)=YA h x y (live h x v):=by
 simp only[aT]
 cases live h x v with
 | none=>rfl
 | some r =>
  obtain⟨v',ty,cells,fz,lst,mp⟩:=r
  rcases cells with _|⟨c,_|⟨c',cs⟩⟩<;>rfl
theorem OO {x v o:Nat} : iE (.ptr x v o)=true:=Eq.trans rfl rfl
theorem SF {x v y:Nat} : iE (.pm x v y)=true:=Eq.trans rfl rfl
theorem SD {xs:List D} : iE (.ip xs)=true:=Eq.trans rfl rfl
theorem SE {x v:Nat} : iE (.mp x v)=true:=Eq.trans rfl rfl
theorem ON {ks:List Int} {vs:List D} : iE (.mpc ks vs)=true:=Eq.trans rfl rfl
theorem R3 {v ty:Nat} {cells:List D} {fz mp:Bool} : pH ⟨v,ty,cells,fz,true,mp⟩=⟨v,ty,cells,true,true,mp⟩:=by cases fz<;>rfl
theorem Ov {d:Nat} : aU.hint d=none:=Eq.trans rfl rfl
theorem JD {f:Nat} {l:Bool} {G:Option (D×Row)→List D→Option (RK×Option Row)} {d:Nat} : (Am.ext Γ f l G).hint d=Γ.hint d:=Eq.trans rfl rfl
theorem Fm {d i:Nat} : (Am.keep d Γ).hint i=Γ.hint i:=Eq.trans rfl rfl
theorem Fl {d y i:Nat} : (Am.va d y Γ).hint i=if i=d then some y else Γ.hint i:=Eq.trans rfl rfl
theorem JG {d y i:Nat} : (Am.va d y Γ).own i=Γ.own i:=Eq.trans rfl rfl
theorem B4 {d y i:Nat} : (Am.va d y Γ).lends i=Γ.lends i:=Eq.trans rfl rfl
theorem JH {d y i:Nat} {lent:Option (D×Row)} {Zo:List D} : (Am.va d y Γ).sem i lent Zo=Γ.sem i lent Zo:=Eq.trans rfl rfl
theorem Fh {ks:List Int} {vs:List D} : fE (.mpc ks vs)=false:=Eq.trans rfl rfl
theorem Ew {ks:List Int} {vs:List D} : canon (.mpc ks vs)=.mpc ks vs:=Eq.trans rfl rfl
theorem A8 {ks:List Int} {vs:List D} : eX (.mpc ks vs)=.mpc ks vs:=Eq.trans rfl rfl
end
structure LM {α:Type} (E:jJ α) (C:List D) (o:Nat) (l:List α):Prop where
 fit:o+l.length*E.size≤C.length
 eq:(C.drop o).take (l.length*E.size)=ab E l
theorem LM.split {α:Type} {E:jJ α} {C:List D} {o:Nat} {l:List α} (F:LM E C o l):C.drop o=ab E l++C.drop (o+l.length*E.size):=by
 rw[← List.drop_drop]
 conv=>lhs;rw[← List.take_append_drop (l.length*E.size) (C.drop o)]
 rw[F.eq]
theorem LM.idx {α:Type} {E:jJ α} {C:List D} {o:Nat} {l:List α} {i:Int} {x:α} (F:LM E C o l) (h:P.idx l i=some x):o+i.toNat*E.size+E.size≤C.length∧∃rest,C.drop (o+i.toNat*E.size)=E.cells x++rest:=by
 have h1:=ui E h
 have h2:=F.fit
 refine⟨by omega,ab E (l.drop (i.toNat+1))++C.drop (o+l.length*E.size),?_⟩
 rw[← List.drop_drop,F.split,List.drop_append_of_le_length (by rw[cN];omega),wV E h,List.append_assoc]
theorem LM.tail {α:Type} {E:jJ α} {C:List D} {o:Nat} {l m:List α} {a:Int} (F:LM E C o l) (h:CV l a (l.length:Int)=some m):LM E C (o+a.toNat*E.size) m:=by
 obtain⟨h1,h2,h3,h4,h5⟩:=Wx E h
 have h6:=F.fit
 have h7:a.toNat*E.size+m.length*E.size=l.length*E.size:=by rw[← Nat.add_mul];congr 1;omega
 refine⟨by omega,?_⟩
 rw[← List.drop_drop,F.split,List.drop_append_of_le_length (by rw[cN];omega),List.take_append_of_le_length (by rw[List.length_drop,cN];omega),h5]
theorem Ye:type_of% (ai @Kp<|ai @Ku<|ai @JZ<|ai @J2<|ai @OC<|ai @VI<|ai @VH<|ai @Kr<|ai @Ft<|ai @KA<|ai @Kz<|ai @Ky<|ai @Lv<|ai @Gn<|ai @Lu<|ai @Vs<|ai @JW<|ai @Tb<|ai @Gc<|ai @VM<|ai @Sz<|@VN):=⟨@Kp,@Ku,@JZ,@J2,@OC,@VI,@VH,@Kr,@Ft,@KA,@Kz,@Ky,@Lv,@Gn,@Lu,@Vs,@JW,@Tb,@Gc,@VM,@Sz,@VN⟩
theorem Yf:type_of% (ai @II<|ai @N8<|ai @IC<|ai @Rr<|ai @N3<|ai @Rq<|ai @N4<|ai @IJ<|ai @IL<|ai @Rs<|ai @OO<|ai @SF<|ai @SD<|ai @SE<|ai @ON<|ai @R4<|ai @R2<|ai @R3<|ai @Ov<|ai @JD<|ai @Fm<|ai @Fl<|ai @JG<|ai @B4<|ai @JH<|ai @FI<|ai @FH<|ai @Fh<|ai @Ew<|ai @A8<|ai @I7<|@Vi):=⟨@II,@N8,@IC,@Rr,@N3,@Rq,@N4,@IJ,@IL,@Rs,@OO,@SF,@SD,@SE,@ON,@R4,@R2,@R3,@Ov,@JD,@Fm,@Fl,@JG,@B4,@JH,@FI,@FH,@Fh,@Ew,@A8,@I7,@Vi⟩
theorem Yg:type_of% (ai @yW<|ai @y3<|ai @Bi<|ai @Bl<|ai @uV<|ai @uZ<|ai @Bh<|ai @Bk<|ai @vv<|ai @xt<|ai @sa<|ai @xr<|ai @Rb<|ai @NP<|@Rc):=⟨@yW,@y3,@Bi,@Bl,@uV,@uZ,@Bh,@Bk,@vv,@xt,@sa,@xr,@Rb,@NP,@Rc⟩
theorem Yd:type_of% (ai @JV<|ai @Sk<|ai @JX<|ai @Tc<|ai @CZ<|ai @Fi<|@RZ):=⟨@JV,@Sk,@JX,@Tc,@CZ,@Fi,@RZ⟩
theorem vi:type_of% (ai @Ye<|ai @Yf<|ai @Yd<|@Yg):=⟨@Ye,@Yf,@Yd,@Yg⟩
def Q0 (P:Program) (f:FuncId):Prop:=∀(blk off cap:Nat) (zs:List Int) (w:World),Go.Sort.Holds (Value.int .i64) w blk off zs.toArray→blk<w.heap.size→zs.length<4611686018427387904 →
 Calls P f #[.slice (some ⟨blk,off,none⟩) zs.length cap] w fun e w'=>e=.returned (.tuple #[])∧∃n os,w'=Go.Sort.grow (Go.Sort.putRow (Value.int .i64) (Go.Sort.ahead w n) blk off (fU zs).toArray) os
theorem iQ (k:IntKind):∀(l:List Int) (j:Nat),(ab (eI k) l)[j]? = l[j]?.map fun n =>.int k n
 | [],j=>by simp[ab]
 | x::l,0=>by simp[ab,eI]
 | x::l,j+1=>by
  have:=iQ k l j
  simp only[ab,wD,List.cons_append,List.nil_append,List.getElem?_cons_succ]
  exact this
theorem cl (k:IntKind) (l:List Int):(ab (eI k) l).length=l.length:=by rw[cN];show l.length*1=_;omega
theorem tB {w:World} {b off:Nat} {d:List Int} {cs:Array Value} {ty:Nat} {fr:Nat×Nat} (h:w.heap[b]? = some (.cells cs ty fr)):(Go.Sort.putRow (Value.int .i64) w b off d.toArray).heap[b]? = some (.cells (Go.Sort.putCells (Value.int .i64) off d.toArray cs) ty fr):=by
 simp[Go.Sort.putRow,Go.Sort.mapBlock,Array.getElem?_modify,h,Go.Sort.onCells]
theorem kH {w:World} {b c off:Nat} {d:List Int} (h:c≠b):(Go.Sort.putRow (Value.int .i64) w b off d.toArray).heap[c]? = w.heap[c]?:=by
 simp[Go.Sort.putRow,Go.Sort.mapBlock,Array.getElem?_modify,Ne.symm h]
theorem qS {off:Nat} {d:List Int} {cs:Array Value} {k:Nat} (hk:k<cs.size):(Go.Sort.putCells (Value.int .i64) off d.toArray cs).getD k undef=if off≤k∧k<off+d.length then .int .i64 (d.getD (k-off) 0) else cs.getD k undef:=by
 have h1:(Go.Sort.putCells (Value.int .i64) off d.toArray cs)[k]? = some (if off≤k∧k<off+d.length then .int .i64 (d.getD (k-off) 0) else cs[k]):=by
  simp only[Go.Sort.putCells,Array.getElem?_mapIdx,Array.getElem?_eq_getElem hk,Option.map_some,List.size_toArray]
  congr 1
  split
  ·rename_i hc
   congr 1
   have:k-off<d.length:=by omega
   simp[List.getD,this]
  ·rfl
 rw[Array.getD_eq_getD_getElem?,h1]
 simp[Array.getD_eq_getD_getElem?,hk]
theorem UZ {P:Program} {f:FuncId} {fn:Func} {ty:Nat} {F small:List Int→Option (List Int×Unit)} (hf:P.funcs[f]? = some fn) (hc:(fn.name == "runtime.NumGoroutine")=false∧fn.body.isNone=false)
  (hF:∀l,F l=if l.length<4611686018427387904 then some (fU l,()) else none) (hs:bN P f (QQ ty (eI .i64) Ua (fun l (_:Unit)=>small l) (fun _:Unit =>.clean (.tup [])))) (h0:small []=some ([],())) (hS:Q0 P f) :
  bN P f (QQ ty (eI .i64) Ua (fun l (_:Unit)=>F l) (fun _:Unit =>.clean (.tup []))) where
 callable:=⟨fn,hf,hc⟩
 calls lent Zo rk out hg:=by
  obtain⟨pre,l,post,a,l',r,rfl,rfl,hr,rfl,rfl⟩:=Kw hg
  rw[hF]at hr
  split at hr
  ·rename_i hlen
   cases hr
   by_cases hl:l=[]
   ·subst hl
    rw[yF]
    exact hs.calls _ _ _ _ (by rw[Cm];simp[h0])
   ·intro w M go u0 vs hM hgoM hz hmp hrow hlv hargs
    have hpos:0<l.length:=List.length_pos_iff.2 hl
    have hvs:vs = #[]:=by
     have:=hargs.1
     simpa [Ua] using this
    subst hvs
    cases go with
    | none =>
     have hce:pre++(ab (eI .i64) l++post)=[]:=hrow
     have:=congrArg List.length hce
     rw[List.length_append,List.length_append,cl,List.length_nil]at this
     omega
    | some g =>
     obtain⟨cs,h1,h2,h3⟩:=hrow
     simp only[List.length_append,cl]at h2
     have hcell:∀j,j<l.length→cs.getD (g.2+(pre.length+j)) undef=.int .i64 (l.getD j 0):=by
      intro j hj
      have hd:(pre++(ab (eI .i64) l++post))[pre.length+j]? = some (.int .i64 (l.getD j 0)):=by
       rw[List.getElem?_append_right (by omega),Nat.add_sub_cancel_left,List.getElem?_append_left (by rw[cl];exact hj),iQ]
       simp[List.getD,hj]
      obtain⟨_,hp⟩:=h3 _ _ hd
      cases hu:cs.getD (g.2+(pre.length+j)) undef<;>rw[hu]at hp<;>cases hp
      rfl
     rcases hlv.2 ⟨0,0,[],false,false,false⟩ rfl rfl with⟨g',o',c,N,t,k0,k1,k2,k3,k4,k5⟩|⟨k0,_⟩
     ·cases k0
      obtain⟨rfl,k6⟩:=k2 (.inl (by omega))
      subst k1
      have hlt:g.1<w.heap.size:=(Array.getElem?_eq_some_iff.1 h1).1
      have hH:Go.Sort.Holds (Value.int .i64) w g.1 (g.2+pre.length) l.toArray:=by
       intro j hj
       simp only[List.size_toArray]at hj
       refine⟨?_,by simp[World.frozen?,h1]⟩
       have:=bG h1 (j:=g.2+pre.length+j) (by omega)
       rw[this,Nat.add_assoc,hcell j hj]
       simp[List.getD,hj]
      refine (hS g.1 (g.2+pre.length) c l w hH hlt hlen).mono fun e w' ⟨he,n,os,hw⟩ =>?_
      subst hw
      refine⟨.tuple #[],he,?_,?_,?_⟩
      ·refine⟨rfl,rfl,rfl,by simp[Go.Sort.ahead],fun k hk hn =>?_⟩
       have hkg:k≠g.1:=fun e=>hn ⟨g,rfl,e⟩
       rw[Go.Sort.heap_grow_old _ _ (by simpa [Go.Sort.ahead] using hk),kH hkg]
       rfl
      ·have hnew:(Go.Sort.grow (Go.Sort.putRow (Value.int .i64) (Go.Sort.ahead w n) g.1 (g.2+pre.length) (fU l).toArray) os).heap[g.1]? = some (.cells (Go.Sort.putCells (Value.int .i64) (g.2+pre.length) (fU l).toArray cs) ty (0,0)):=by
        rw[Go.Sort.heap_grow_old _ _ (by simpa [Go.Sort.ahead] using hlt)]
        exact tB h1
       have hsz:(Go.Sort.putCells (Value.int .i64) (g.2+pre.length) (fU l).toArray cs).size=cs.size:=by simp[Go.Sort.putCells]
       refine⟨rfl,rfl,rfl,fun g' hg' =>?_,?_⟩
       ·cases hg'
        simp[World.shape?,hnew,h1,hsz]
       ·refine⟨_,hnew,?_,fun j d hj =>?_⟩
        ·simp only[List.length_append,cl,fm,hsz];exact h2
        ·have hjl:j<pre.length+(l.length+post.length):=by
          have:=(List.getElem?_eq_some_iff.1 hj).1
          simpa [cl,fm] using this
         have hrest:∀ {d:D} {u:Value},RP w (fun b=>M b∨mq (some g) b) d u→RP (Go.Sort.grow (Go.Sort.putRow (Value.int .i64) (Go.Sort.ahead w n) g.1 (g.2+pre.length) (fU l).toArray) os) (fun b=>M b∨mq (some g) b) d u:=by
          intro d u hu
          refine hu.keep fun b q1 q2=>⟨by simp[Go.Sort.ahead];omega,q2,?_⟩
          have hbg:b≠g.1:=fun e=>q2 (.inr ⟨g,rfl,e⟩)
          rw[Go.Sort.heap_grow_old _ _ (by simpa [Go.Sort.ahead] using q1),kH hbg]
          rfl
         rw[qS (by omega),fm]
         by_cases hin:pre.length≤j∧j<pre.length+l.length
         ·rw[if_pos (by omega)]
          rw[List.getElem?_append_right (by omega),List.getElem?_append_left (by rw[cl,fm];omega),iQ,Option.map_eq_some_iff]at hj
          obtain⟨z,hz,rfl⟩:=hj
          have e1:g.2+j-(g.2+pre.length)=j-pre.length:=by omega
          rw[e1]
          have e2:(fU l).getD (j-pre.length) 0=z:=by simp[List.getD,hz]
          rw[e2]
          exact⟨rfl,.int _ _⟩
         ·rw[if_neg (by omega)]
          have hj':(pre++(ab (eI .i64) l++post))[j]? = some d:=by
           by_cases hlo:j<pre.length
           ·rw[List.getElem?_append_left hlo]at hj ⊢
            exact hj
           ·rw[List.getElem?_append_right (by omega),List.getElem?_append_right (by rw[cl,fm];omega),cl,fm]at hj
            rw[List.getElem?_append_right (by omega),List.getElem?_append_right (by rw[cl];omega),cl]
            exact hj
          exact⟨(h3 j d hj').1,hrest (h3 j d hj').2⟩
      ·exact .tup [] [] rfl (fun j x hj=>by simp at hj)
     ·cases k0
  ·cases hr
end Go.Proofs.YtpkahnkoecbndaaGreatDoor.Am
namespace Go.Proofs.YtpkahnkoecbndaaGreatDoor.P
open Go.RowKit
set_option linter.unusedSimpArgs false
set_option linter.unusedVariables false
theorem wrap64 {x:Int} (h1 : -9223372036854775808≤x) (h2:x<9223372036854775808):IntKind.i64.wrap x=x:=by
 have key:IntKind.i64.wrap x=if x % 18446744073709551616≥9223372036854775808 then x % 18446744073709551616-18446744073709551616 else x % 18446744073709551616:=by
  unfold IntKind.wrap
  by_cases h:x % 18446744073709551616≥9223372036854775808
  ·rw[if_pos h];exact if_pos (by simpa [IntKind.bits,IntKind.signed] using h)
  ·rw[if_neg h];exact if_neg (by simpa [IntKind.bits,IntKind.signed] using h)
 rw[key]
 split<;>omega
theorem NV (b:ByteArray):∀(n i:Nat) (r:List UInt8),b.size-i=n→ByteArray.toList.loop b i r=r.reverse++b.data.toList.drop i
 | 0,i,r,h=>by
  rw[ByteArray.toList.loop]
  have hb:b.data.toList.length=b.size:=Array.length_toList
  rw[if_neg (by omega),List.drop_eq_nil_of_le (by omega),List.append_nil]
 | n+1,i,r,h=>by
  rw[ByteArray.toList.loop]
  have hi:i<b.size:=by omega
  have hb:i<b.data.toList.length:=by rw[Array.length_toList];exact hi
  rw[if_pos hi,NV b n (i+1) _ (by omega),List.drop_eq_getElem_cons hb]
  have hg:b.get! i=b.data.toList[i]:=by
   have:b.get! i=b.data[i]!:=rfl
   rw[this]
   have hd:i<b.data.size:=by simpa using hb
   rw[getElem!_pos b.data i hd]
   exact (Array.getElem_toList hd).symm
  rw[hg]
  simp
theorem Ei (b:ByteArray):b.toList=b.data.toList:=by
 unfold ByteArray.toList
 rw[NV b (b.size-0) 0 [] rfl]
 simp
theorem V4 {a b:ByteArray} (h:a.toList=b.toList):a=b:=by
 rw[Ei,Ei]at h
 cases a;cases b
 simp only[ByteArray.mk.injEq]
 exact Array.ext' h
theorem HO {a b:ByteArray} : (a.toList==b.toList)=decide (a=b):=by
 by_cases h:a=b
 ·subst h;simp
 ·have:¬a.toList=b.toList:=fun h'=>h (V4 h')
  simp[h,this]
theorem V3 {a b:ByteArray} : (a==b)=decide (a=b):=by
 have e:(a==b)=(a.data==b.data):=by cases a;cases b;rfl
 rw[e]
 by_cases h:a=b
 ·subst h;simp
 ·have:¬a.data=b.data:=fun h'=>h (by cases a;cases b;simp only[ByteArray.mk.injEq];exact h')
  simp[h,this]
theorem s9 {α:Type} {l:List α} {i:Int} {x:α} (h0:0≤i) (h:l[i.toNat]? = some x):P.idx l i=some x:=by
 have:=(List.getElem?_eq_some_iff.1 h).1
 unfold P.idx
 rw[if_pos ⟨h0,by omega⟩,h]
theorem uj {α:Type} {l:List α} {i:Int} (h0:0≤i) (h:i<l.length):P.idx l i=some (l[i.toNat]'(by omega)):=s9 h0 (List.getElem?_eq_getElem (by omega))
theorem cv {α:Type} {l:List α} {i:Nat} (h:i<l.length):P.idx l (i:Int)=some (l[i]):=s9 (by omega) (by simp[h])
theorem Az {α:Type} {l:List α} {i:Nat} (h:i≤l.length):CV l 0 (i:Int)=some (l.take i):=by
 unfold CV
 rw[if_pos ⟨by omega,by omega,by omega⟩]
 simp
end Go.Proofs.YtpkahnkoecbndaaGreatDoor.P
namespace Go.Proofs.YtpkahnkoecbndaaGreatDoor.Am
open Go.RowKit Go.Deep Go.ChangeShapes Go.WideShapes
set_option linter.unusedSimpArgs false
set_option linter.unusedVariables false
def An (T:Nat→Option Ty):Nat→Nat→List D→Prop
 | 0,_,_=>False
 | n+1,t,xs =>
  match T t with
  | none=>False
  | some τ=>xs.length=τ.size ∧
   match τ.ds with
   | .int k=>∃i,xs=[.int k i]∧(Lit.int k i).wf=true
   | .bool=>∃b,xs=[.bool b]
   | .str=>∃s:ByteArray,xs=[.str s]∧s.size≤140737488351232
   | .slice e=>∃len ys φ,xs=[.sl false false len ys]∧len*φ.bytes≤140737488351232∧T e=some φ∧ys.length=len*φ.size∧∀i,i<len→An T n e ((ys.drop (i*φ.size)).take φ.size)
   | .struct fs=>∀f∈fs,∃φ,T f.1=some φ∧An T n f.1 ((xs.drop f.2).take φ.size)
   | .arr m e=>∃φ,T e=some φ∧∀i,i<m→An T n e ((xs.drop (i*φ.size)).take φ.size)
   | .map _ _=>False
   | .other=>False
def ze (T:Nat→Option Ty):Nat→List (Nat×Nat)→Nat→Bool
 | o,[],z=>o==z
 | o,(ft,off)::fs,z=>off==o&&match T ft with|some φ=>ze T (o+φ.size) fs z|none=>false
def Ql (T:Nat→Option Ty):Nat→Nat→Bool
 | 0,_=>false
 | n+1,t =>
  match T t with
  | none=>false
  | some τ =>
   match τ.ds with
   | .int _ | .bool | .str=>τ.size==1
   | .slice e=>τ.size==1&&Ql T n e&&(match T e with|some φ=>decide (0<φ.size)|none=>false)
   | .struct fs=>ze T 0 fs τ.size&&fs.all fun f=>Ql T n f.1
   | .arr m e=>Ql T n e&&(match T e with|some φ=>τ.size==m*φ.size|none=>false)
   | .map _ _=>false
   | .other=>false
def lj (w:World) (M:Nat→Prop) (xs:List D) (cs:List Value):Prop:=xs.length=cs.length∧∀(j:Nat) (x:D),xs[j]? = some x→a7 x=true∧∃v,cs[j]? = some v∧RP w M x v
theorem lj.append {w:World} {M:Nat→Prop} {xs ys:List D} {cs ds:List Value} (h:lj w M xs cs) (k:lj w M ys ds):lj w M (xs++ys) (cs++ds):=by
 refine⟨by simp[h.1,k.1],fun j x hj =>?_⟩
 rw[List.getElem?_append]at hj ⊢
 rw[← h.1]
 split at hj
 ·rename_i hlt;rw[if_pos hlt];exact h.2 j x hj
 ·rename_i hlt;rw[if_neg hlt];exact k.2 _ x hj
theorem BP {α:Type} (s:Nat):∀(ls:List (List α)),(∀l∈ls,l.length=s)→∀(i:Nat) (l:List α),ls[i]? = some l→(ls.flatten.drop (i*s)).take s=l
 | [],_,i,l,h=>by simp at h
 | a::ls,hl,0,l,h=>by
  simp only[List.getElem?_cons_zero,Option.some.injEq]at h
  subst h
  have:a.length=s:=hl a (by simp)
  simp[this]
 | a::ls,hl,i+1,l,h=>by
  have ha:a.length=s:=hl a (by simp)
  rw[List.flatten_cons,List.drop_append,List.drop_eq_nil_of_le (by rw[ha,Nat.succ_mul];omega),List.nil_append,ha,Nat.succ_mul,Nat.add_sub_cancel]
  exact BP s ls (fun x hx=>hl x (List.mem_cons_of_mem _ hx)) i l h
theorem Ji {α:Type} (s:Nat):∀(ls:List (List α)),(∀l∈ls,l.length=s)→ls.flatten.length=ls.length*s
 | [],_=>by simp
 | a::ls,hl=>by
  rw[List.flatten_cons,List.length_append,Ji s ls (fun x hx=>hl x (List.mem_cons_of_mem _ hx)),hl a (by simp),List.length_cons,Nat.succ_mul]
  omega
section
variable {H:Type} {enc:TypeId×Value→H} {P:Program} {w:World} {base:Nat} {spare:Nat→Bool} {held:Bool} {T:Nat→Option Ty}
theorem dC.bytesOf {P:Program} {t:Nat} {τ:Ty} (h:dC P t τ):P.bytesOf t=τ.bytes:=by
 have:=h.info
 unfold Program.bytesOf
 cases hi:P.info? t with
 | none=>rw[hi]at this;simp at this
 | some i=>rw[hi]at this;simp only[Option.map_some,Option.some.injEq,Prod.mk.injEq]at this;simp[this.2.1]
def Reach (P:Program) (t:Nat) (d:DataW H):Prop:=∀k∈d.weights P t,k≤140737488351232
theorem yA {e:TypeId} : ∀(l:List (DataW H)) (j:Nat) (d:DataW H),l[j]? = some d→∀k∈d.weights P e,k∈DataW.weightsAll P e l
 | x::l,0,d,h,k,hk=>by
  simp only[List.getElem?_cons_zero,Option.some.injEq]at h
  subst h
  simp only[DataW.weightsAll,List.mem_append]
  exact .inl hk
 | x::l,j+1,d,h,k,hk=>by
  simp only[DataW.weightsAll,List.mem_append]
  exact .inr (yA l j d (by simpa using h) k hk)
 | [],j,d,h,k,hk=>by simp at h
theorem dC.cells {P:Program} {t:Nat} {τ:Ty} (h:dC P t τ):P.cellsOf t=τ.size:=by
 have:=h.info
 unfold Program.cellsOf
 cases hi:P.info? t with
 | none=>rw[hi]at this;simp at this
 | some i=>rw[hi]at this;simp only[Option.map_some,Option.some.injEq,Prod.mk.injEq]at this;simp[this.1]
theorem Oy {T:Nat→Option Ty} {w:World} {M:Nat→Prop} {cs:List Value} : ∀(fs:List (Nat×Nat)) (o z:Nat) (f:Nat×Nat→List D),ze T o fs z=true→cs.length=z →
  (∀p∈fs,∃φ,T p.1=some φ∧lj w M (f p) ((cs.drop p.2).take φ.size))→o≤z→∃xs,lj w M xs (cs.drop o)∧∀p∈fs,∃φ,T p.1=some φ∧o≤p.2∧(xs.drop (p.2-o)).take φ.size=f p
 | [],o,z,f,hl,hc,_,_=>by
  simp only[ze,beq_iff_eq]at hl
  refine⟨[],⟨by rw[List.length_drop,hc,hl];simp,fun j x hj=>by simp at hj⟩,fun p hp=>by simp at hp⟩
 | (ft,off)::fs,o,z,f,hl,hc,hp,hoz=>by
  simp only[ze,Bool.and_eq_true,beq_iff_eq]at hl
  obtain⟨rfl,hl⟩:=hl
  obtain⟨φ,hφ,hR⟩:=hp (ft,off) (by simp)
  simp only[hφ]at hl
  have hz:off+φ.size≤z:=by
   have:∀(fs:List (Nat×Nat)) (o:Nat),ze T o fs z=true→o≤z:=by
    intro fs
    induction fs with
    | nil=>intro o h;simp only[ze,beq_iff_eq]at h;omega
    | cons p fs ih =>
     intro o h
     obtain⟨a,b⟩:=p
     simp only[ze,Bool.and_eq_true]at h
     have h2:=h.2
     split at h2
     ·have:=ih _ h2;omega
     ·cases h2
   exact this fs _ hl
  obtain⟨xs,hx,hxs⟩:=Oy fs (off+φ.size) z f hl hc (fun p h=>hp p (List.mem_cons_of_mem _ h)) hz
  have hfl:(f (ft,off)).length=φ.size:=by
   rw[hR.1,List.length_take,List.length_drop,hc];omega
  refine⟨f (ft,off)++xs,?_,fun p h =>?_⟩
  ·have:=hR.append hx
   rw[← List.drop_drop,List.take_append_drop]at this
   exact this
  ·rcases List.mem_cons.1 h with rfl|h
   ·exact⟨φ,hφ,Nat.le_refl _,by simp only[Nat.sub_self,List.drop_zero];rw[List.take_append_of_le_length (by omega),List.take_of_length_le (by omega)]⟩
   ·obtain⟨ψ,h1,h2,h3⟩:=hxs p h
    refine⟨ψ,h1,by omega,?_⟩
    rw[List.drop_append,List.drop_eq_nil_of_le (by omega),List.nil_append,hfl]
    have:p.2-off-φ.size=p.2-(off+φ.size):=by omega
    rw[this,h3]
theorem lj.one {w:World} {M:Nat→Prop} {x:D} {v:Value} (hp:a7 x=true) (h:RP w M x v):lj w M [x] [v]:=by
 refine⟨rfl,fun j y hj =>?_⟩
 match j,hj with
 | 0,hj=>simp only[List.getElem?_cons_zero,Option.some.injEq]at hj;subst hj;exact⟨hp,v,rfl,h⟩
 | j+1,hj=>simp at hj
theorem lj.flat {w:World} {M:Nat→Prop} {cs:List Value} {s:Nat} : ∀(ls:List (List D)) (o:Nat),(∀(i:Nat) l,ls[i]? = some l→lj w M l ((cs.drop (o+i*s)).take s))→(∀l∈ls,l.length=s)→lj w M ls.flatten ((cs.drop o).take (ls.length*s))
 | [],o,_,_=>⟨by simp,fun j x hj=>by simp at hj⟩
 | a::ls,o,h,hl=>by
  have h0:=h 0 a rfl
  have h1:=lj.flat ls (o+s) (fun i l hi=>by
   have:=h (i+1) l (by simpa using hi)
   rw[Nat.succ_mul]at this
   rw[show o+s+i*s=o+(i*s+s) by omega]
   exact this) (fun l hx=>hl l (List.mem_cons_of_mem _ hx))
  have:=h0.append h1
  rw[Nat.zero_mul,Nat.add_zero]at this
  rw[List.flatten_cons,List.length_cons,Nat.succ_mul,Nat.add_comm (ls.length*s) s,List.take_add,List.drop_drop]
  exact this
theorem V6 (hT:k9 P T) {M:Nat→Prop} (hM:∀b,base≤b→b<w.heap.size→¬M b):∀(n t fuel:Nat) (cs:List Value) (x:DataW H×List MemPlace),Ql T n t=true→DataW.trod enc P w base spare held fuel t cs=some x→Reach P t x.1→∃xs,An T n t xs∧lj w M xs cs:=by
 intro n
 induction n with
 | zero=>intro t fuel cs x h;cases h
 | succ n ih =>
  intro t fuel cs x hok h hw
  unfold Ql at hok
  unfold An
  cases hτ:T t with
  | none=>rw[hτ]at hok;cases hok
  | some τ =>
   rw[hτ]at hok
   simp only at hok ⊢
   obtain⟨d,hd,hc⟩:=under hT hτ
   cases hds:τ.ds with
   | int k =>
    rw[hds]at hok hc
    simp only[beq_iff_eq]at hok
    have hd':=wq hc
    subst hd'
    obtain⟨i,rfl,_,hw⟩:=DataW.trod_int hd h
    exact⟨[.int k i],⟨by rw[hok];rfl,i,rfl,hw⟩,.one rfl (.int k i)⟩
   | bool =>
    rw[hds]at hok hc
    simp only[beq_iff_eq]at hok
    have hd':=tO hc
    subst hd'
    obtain⟨b,rfl,_⟩:=DataW.trod_bool hd h
    exact⟨[.bool b],⟨by rw[hok];rfl,b,rfl⟩,.one rfl (.bool b)⟩
   | str =>
    rw[hds]at hok hc
    simp only[beq_iff_eq]at hok
    have hd':=pE hc
    subst hd'
    obtain⟨s,rfl,rfl,hs⟩:=DataW.trod_string hd h
    have hs':s.size≤140737488351232:=by
     have:=hw s.data.toList.length (by simp[DataW.weights])
     simpa using this
    exact⟨[.str s],⟨by rw[hok];rfl,s,rfl,hs'⟩,.one rfl (.str s)⟩
   | map _ _=>rw[hds]at hok;cases hok
   | other=>rw[hds]at hok;cases hok
   | struct fs =>
    rw[hds]at hok hc
    simp only[Bool.and_eq_true,List.all_eq_true]at hok
    obtain⟨F,rfl,hF⟩:=gG hc
    obtain⟨ys,m,_,rfl,hlen,hyl,hf⟩:=DataW.trod_struct hd h
    have hwy:∀(i:Nat) (f:Field) y,F[i]? = some f→ys[i]? = some y→Reach P f.type y.1:=by
     intro i f y hfi hyi k hk
     refine hw k ?_
     simp only[DataW.weights,hd]
     exact DataW.weights_mem_each (j:=i) (t:=f.type) (d:=y.1) (by rw[List.getElem?_map,Array.getElem?_toList,hfi];rfl) (by simp[hyi]) k hk
    rw[(hT t τ hτ).cells]at hlen
    have hone:∀p:Nat×Nat,∃zs,p∈fs→∃φ,T p.1=some φ∧An T n p.1 zs∧lj w M zs ((cs.drop p.2).take φ.size):=by
     intro p
     by_cases hp:p∈fs
     ·have hokp:=hok.2 p hp
      rw[← hF]at hp
      obtain⟨f,hfm,rfl⟩:=List.mem_map.1 hp
      obtain⟨i,hi⟩:=List.mem_iff_getElem?.1 hfm
      have h1:=hf i f (by simpa using hi)
      simp only at hokp ⊢
      cases hφ:T f.type with
      | none=>cases n with
       | zero=>cases hokp
       | succ n=>simp only[Ql,hφ]at hokp;cases hokp
      | some φ =>
       rw[(hT _ φ hφ).cells]at h1
       have hi':i<ys.length:=by
        have:=(List.getElem?_eq_some_iff.1 hi).1
        simp only[Array.length_toList]at this
        omega
       rw[List.getElem?_eq_getElem hi']at h1
       obtain⟨zs,hz1,hz2⟩:=ih _ _ _ _ hokp h1 (hwy i f _ (by simpa using hi) (List.getElem?_eq_getElem hi'))
       exact⟨zs,fun _=>⟨φ,rfl,hz1,hz2⟩⟩
     ·exact⟨[],fun h=>(hp h).elim⟩
    obtain⟨f,hf2⟩:=Classical.axiomOfChoice hone
    obtain⟨xs,hx,hparts⟩:=Oy fs 0 τ.size f hok.1 hlen (fun p hp=>by obtain⟨φ,a,_,b⟩:=hf2 p hp;exact⟨φ,a,b⟩) (Nat.zero_le _)
    rw[List.drop_zero]at hx
    refine⟨xs,⟨by rw[hx.1,hlen],fun p hp =>?_⟩,hx⟩
    obtain⟨φ,h1,_,h3⟩:=hparts p hp
    obtain⟨ψ,g1,g2,_⟩:=hf2 p hp
    rw[h1]at g1
    cases g1
    rw[Nat.sub_zero]at h3
    exact⟨φ,h1,by rw[h3];exact g2⟩
   | arr m e =>
    rw[hds]at hok hc
    simp only[Bool.and_eq_true]at hok
    have hd':=wo hc
    subst hd'
    obtain⟨ys,k,_,rfl,hlen,hyl,hf⟩:=DataW.trod_array hd h
    have hwy:∀(i:Nat) y,ys[i]? = some y→Reach P e y.1:=by
     intro i y hyi k hk
     refine hw k ?_
     simp only[DataW.weights,hd]
     exact yA _ i y.1 (by simp[hyi]) k hk
    rw[(hT t τ hτ).cells]at hlen
    obtain⟨hok1,hok2⟩:=hok
    split at hok2
    ·rename_i φ hφ
     simp only[beq_iff_eq]at hok2
     have hone:∀i:Nat,∃zs,i<m→An T n e zs∧lj w M zs ((cs.drop (i*φ.size)).take φ.size):=by
      intro i
      by_cases hi:i<m
      ·have h1:=hf i hi
       rw[(hT _ φ hφ).cells,List.getElem?_eq_getElem (by omega)]at h1
       obtain⟨zs,hz1,hz2⟩:=ih _ _ _ _ hok1 h1 (hwy i _ (List.getElem?_eq_getElem (by omega)))
       exact⟨zs,fun _=>⟨hz1,hz2⟩⟩
      ·exact⟨[],fun h=>(hi h).elim⟩
     obtain⟨f,hf2⟩:=Classical.axiomOfChoice hone
     have hls:∀l∈(List.range m).map f,l.length=φ.size:=by
      intro l hl
      obtain⟨i,hi,rfl⟩:=List.mem_map.1 hl
      have hi:=List.mem_range.1 hi
      rw[(hf2 i hi).2.1,List.length_take,List.length_drop,hlen,hok2]
      have:(i+1)*φ.size≤m*φ.size:=Nat.mul_le_mul_right _ hi
      rw[Nat.succ_mul]at this
      omega
     have hget:∀(i:Nat) l,((List.range m).map f)[i]? = some l→i<m∧l=f i:=by
      intro i l hl
      rw[List.getElem?_map,Option.map_eq_some_iff]at hl
      obtain⟨j,hj,rfl⟩:=hl
      obtain⟨hj1,hj2⟩:=List.getElem?_eq_some_iff.1 hj
      simp only[List.length_range]at hj1
      simp only[List.getElem_range]at hj2
      exact⟨hj1,by rw[hj2]⟩
     have hall:lj w M ((List.range m).map f).flatten ((cs.drop 0).take (((List.range m).map f).length*φ.size)):=by
      refine lj.flat _ 0 (fun i l hl =>?_) hls
      obtain⟨hi,rfl⟩:=hget i l hl
      rw[Nat.zero_add]
      exact (hf2 i hi).2
     rw[List.length_map,List.length_range,List.drop_zero,List.take_of_length_le (by omega)]at hall
     refine⟨_,⟨by rw[hall.1,hlen],φ,hφ,fun i hi =>?_⟩,hall⟩
     have hi':((List.range m).map f)[i]? = some (f i):=by simp[hi]
     rw[BP φ.size _ hls i _ hi']
     exact (hf2 i hi).1
    ·cases hok2
   | slice e =>
    rw[hds]at hok hc
    simp only[Bool.and_eq_true,beq_iff_eq]at hok
    have hd':=fw hc
    subst hd'
    obtain⟨⟨hone,hoke⟩,hpos⟩:=hok
    split at hpos
    ·rename_i φ hφ
     simp only[decide_eq_true_eq]at hpos
     rcases open_slice hd h with⟨rfl,_⟩|⟨a,len,cap,m,k,D',Pl,rfl,hb,hl,hm,hmm,rfl,hi⟩
     ·refine⟨[.sl false false 0 []],⟨by rw[hone];rfl,0,[],φ,rfl,by omega,hφ,by simp,fun i hi=>by omega⟩,.one rfl ?_⟩
      exact .sl none 0 false false 0 [] (fun _=>undef) (Nat.le_refl _) (Nat.zero_le _) (fun h=>by cases h) (fun _=>⟨rfl,rfl⟩) (fun h=>by cases h) (fun h=>(h rfl).elim) (fun j x hj=>by simp at hj) (fun x hx=>by simp at hx)
     ·have hlm:len≤m:=by rw[hmm];split<;>omega
      have hwl:len*φ.bytes≤140737488351232:=by
       have h1:=hw ((((List.range len).map D').length+((List.range (m-len)).map fun j=>D' (len+j)).length)*P.bytesOf e) (by simp[DataW.weights,hd])
       rw[(hT _ φ hφ).bytesOf]at h1
       simp only[List.length_map,List.length_range]at h1
       exact Nat.le_trans (Nat.mul_le_mul_right _ (by omega)) h1
      have hwy:∀i,i<len→Reach P e (D' i):=by
       intro i hi' k hk
       refine hw k ?_
       simp only[DataW.weights,hd,List.mem_cons,List.mem_append]
       exact .inr (.inl (yA _ i (D' i) (by simp[hi']) k hk))
      have hone':∀i:Nat,∃zs,i<len→An T n e zs∧zs.length=φ.size∧∀(j:Nat) z,zs[j]? = some z→a7 z=true∧∃v,w.cell? (a.add (i*φ.size+j))=some v∧RP w M z v:=by
       intro i
       by_cases hil:i<len
       ·obtain⟨cs',hc1,hc2⟩:=hi i (by omega)
        rw[(hT _ φ hφ).cells]at hc1
        obtain⟨_,g1,g2⟩:=World.cells?_some hc1
        obtain⟨zs,hz1,hz2⟩:=ih _ _ _ _ hoke hc2 (hwy i hil)
        refine⟨zs,fun _=>⟨hz1,by rw[hz2.1,g1],fun j z hj =>?_⟩⟩
        obtain⟨p1,v,p2,p3⟩:=hz2.2 j z hj
        refine⟨p1,v,?_,p3⟩
        have hj':j<φ.size:=by rw[← g1];exact (List.getElem?_eq_some_iff.1 p2).1
        rw[← Go.Deep.add_add,g2 j hj',p2]
       ·exact⟨[],fun h=>(hil h).elim⟩
      obtain⟨f,hf2⟩:=Classical.axiomOfChoice hone'
      have hls:∀l∈(List.range len).map f,l.length=φ.size:=by
       intro l hl
       obtain⟨i,hi,rfl⟩:=List.mem_map.1 hl
       exact (hf2 i (List.mem_range.1 hi)).2.1
      have hfl:((List.range len).map f).flatten.length=len*φ.size:=by rw[Ji φ.size _ hls];simp
      have hseg:∀i,i<len→(((List.range len).map f).flatten.drop (i*φ.size)).take φ.size=f i:=fun i hi=>BP φ.size _ hls i (f i) (by simp[hi])
      have hat:∀(p:Nat) z,((List.range len).map f).flatten[p]? = some z→a7 z=true∧∃v,w.cell? (a.add p)=some v∧RP w M z v:=by
       intro p z hp
       have hpl:=(List.getElem?_eq_some_iff.1 hp).1
       rw[hfl]at hpl
       have hq:p / φ.size<len:=Nat.div_lt_of_lt_mul (by rwa [Nat.mul_comm])
       have hr:p % φ.size<φ.size:=Nat.mod_lt _ hpos
       have he:p / φ.size*φ.size+p % φ.size=p:=Nat.div_add_mod' p φ.size
       have hz:(f (p / φ.size))[p % φ.size]? = some z:=by
        rw[← hseg _ hq,List.getElem?_take,if_pos hr,List.getElem?_drop,he]
        exact hp
       have:=(hf2 _ hq).2.2 _ z hz
       rw[he]at this
       exact this
      refine⟨[.sl false false len ((List.range len).map f).flatten],⟨by rw[hone];rfl,len,_,φ,rfl,hwl,hφ,hfl,fun i hi=>by rw[hseg i hi];exact (hf2 i hi).1⟩,.one rfl ?_⟩
      refine .sl (some a) cap false false len _ (fun j=>(w.cell? (a.add j)).getD undef) hl hm (fun h=>by cases h) (fun h=>by cases h) (fun h=>by cases h) (fun hne =>?_) (fun j z hj =>?_) (fun z hz =>?_)
      ·have h0:0<((List.range len).map f).flatten.length:=List.length_pos_iff.2 hne
       obtain⟨_,v,hv,_⟩:=hat 0 _ (List.getElem?_eq_getElem h0)
       obtain⟨b,o,sp⟩:=a
       have hsp:sp=none:=by
        unfold World.cell? at hv
        split at hv
        ·split at hv
         ·cases hv
         ·rename_i h;simpa [Addr.add] using h
        ·cases hv
       subst hsp
       have hbs:b<w.heap.size:=by
        unfold World.cell? at hv
        split at hv
        ·rename_i hh;exact (Array.getElem?_eq_some_iff.1 hh).1
        ·cases hv
       refine⟨b,o,rfl,hbs,hM b hb hbs,fun j hj =>?_⟩
       obtain⟨_,v,hv,_⟩:=hat j _ (List.getElem?_eq_getElem hj)
       have ha:Addr.add ⟨b,o,none⟩ j=⟨b,o+j,none⟩:=by
        unfold Addr.add
        split
        ·rename_i h0;rw[h0];rfl
        ·rfl
       have hv':w.cell? ⟨b,o+j,none⟩=some v:=by rw[← ha];exact hv
       rw[hv']
       simp only[hv,Option.getD_some]
      ·obtain⟨_,v,hv,hr⟩:=hat j z hj
       rw[hv]
       exact hr
      ·obtain⟨j,hj⟩:=List.mem_iff_getElem?.1 hz
       exact (hat j z hj).1
    ·cases hpos
def sg (T:Nat→Option Ty) (n t:Nat) (d:D):Prop :=
 match T t with
 | some τ=>if τ.ds.ot then ∃xs,d=.agg xs∧An T n t xs else An T n t [d]
 | none=>False
theorem lj.agg {w:World} {M:Nat→Prop} {xs:List D} {cs:Array Value} (h:lj w M xs cs.toList):RP w M (.agg xs) (.agg cs):=by
 have:=RP.agg (w:=w) (M:=M) xs cs.toList h.1.symm (fun j x hj=>by
  obtain⟨_,v,h1,h2⟩:=h.2 j x hj
  simp only[List.getD,h1,Option.getD_some]
  exact h2) (fun x hx=>by
  obtain⟨j,hj⟩:=List.mem_iff_getElem?.1 hx
  exact (h.2 j x hj).1)
 simpa using this
theorem lj.single {w:World} {M:Nat→Prop} {xs:List D} {v:Value} (h:lj w M xs [v]):∃x,xs=[x]∧RP w M x v:=by
 match xs,h with
 | [],h=>have:=h.1;simp at this
 | [x],h=>obtain⟨_,u,h1,h2⟩:=h.2 0 x rfl;simp only[List.getElem?_cons_zero,Option.some.injEq]at h1;subst h1;exact⟨x,rfl,h2⟩
 | x::y::xs,h=>have:=h.1;simp at this
theorem Um (hT:k9 P T) {M:Nat→Prop} (hM:∀b,base≤b→b<w.heap.size→¬M b) {n t b0:Nat} {v:Value} {d:DataW H} {ps:List MemPlace} (hok:Ql T n t=true) (hv:Value.okWide P w .any b0 t v) (h:DataW.Trod enc P w base spare held t v d ps) (hw:Reach P t d) :
  ∃x,sg T n t x∧RP w M x v:=by
 obtain⟨fuel,h⟩:=h
 obtain⟨xs,h1,h2⟩:=V6 hT hM n t fuel _ _ hok h hw
 unfold sg
 cases n with
 | zero=>cases hok
 | succ n =>
 cases hτ:T t with
 | none=>simp only[Ql,hτ]at hok;cases hok
 | some τ =>
  simp only
  obtain⟨d',hd,hc⟩:=under hT hτ
  cases hds:τ.ds with
  | int k =>
   rw[hds]at hc
   have hd':=wq hc
   subst hd'
   obtain⟨i,rfl⟩:=okWide_int hd hv
   obtain⟨x,rfl,hx⟩:=lj.single (v := .int k i) h2
   exact⟨x,by simpa [Ds.ot] using h1,hx⟩
  | bool =>
   rw[hds]at hc
   have hd':=tO hc
   subst hd'
   obtain⟨i,rfl⟩:=okWide_bool hd hv
   obtain⟨x,rfl,hx⟩:=lj.single (v := .bool i) h2
   exact⟨x,by simpa [Ds.ot] using h1,hx⟩
  | str =>
   rw[hds]at hc
   have hd':=pE hc
   subst hd'
   obtain⟨i,rfl⟩:=okWide_string hd hv
   obtain⟨x,rfl,hx⟩:=lj.single (v := .string i) h2
   exact⟨x,by simpa [Ds.ot] using h1,hx⟩
  | slice e =>
   rw[hds]at hc
   have hd':=fw hc
   subst hd'
   obtain⟨a,len,cap,rfl⟩:=okWide_slice hd hv
   obtain⟨x,rfl,hx⟩:=lj.single (v := .slice a len cap) h2
   exact⟨x,by simpa [Ds.ot] using h1,hx⟩
  | struct fs =>
   rw[hds]at hc
   obtain⟨F,rfl,_⟩:=gG hc
   obtain⟨cs,rfl,_⟩:=okWide_struct hd hv
   exact⟨.agg xs,by simpa [Ds.ot] using h1,lj.agg h2⟩
  | arr m e =>
   rw[hds]at hc
   have hd':=wo hc
   subst hd'
   have:∃cs,v=.agg cs:=by
    unfold Value.okWide at hv
    rw[hd]at hv
    obtain⟨cs,h,_⟩:=hv
    exact⟨cs,h⟩
   obtain⟨cs,rfl⟩:=this
   exact⟨.agg xs,by simpa [Ds.ot] using h1,lj.agg h2⟩
  | map _ _=>simp only[Ql,hτ,hds]at hok;cases hok
  | other=>simp only[Ql,hτ,hds]at hok;cases hok
theorem Em (hT:k9 P T) {M:Nat→Prop} (hM:∀b,base≤b→b<w.heap.size→¬M b) {n b0:Nat} : ∀(ts:List TypeId) (vs:List Value) (ds:List (DataW H)) (ps:List MemPlace),DataW.TrodAll enc P w base spare held ts vs ds ps →
  (∀(j:Nat) t v,ts[j]? = some t→vs[j]? = some v→Value.okWide P w .any b0 t v)→(∀t∈ts,Ql T n t=true)→(∀k∈DataW.weightsEach P ts ds,k≤140737488351232) →
  ∃ar:List D,ar.length=vs.length∧(∀(j:Nat) x,ar[j]? = some x→∃v,vs[j]? = some v∧RP w M x v)∧ar.length=ts.length∧∀(j:Nat) t,ts[j]? = some t→∃x,ar[j]? = some x∧sg T n t x
 | [],[],[],ps,_,_,_,_=>⟨[],rfl,fun j x hj=>by simp at hj,rfl,fun j t hj=>by simp at hj⟩
 | t::ts,v::vs,d::ds,ps,h,hv,hok,hw=>by
  obtain⟨p,q,h1,h2,_⟩:=h
  obtain⟨x,hx1,hx2⟩:=Um hT hM (hok t (by simp)) (hv 0 t v rfl rfl) h1 (fun k hk=>hw k (by simp only[DataW.weightsEach,List.mem_append];exact .inl hk))
  obtain⟨ar,g1,g2,g3,g4⟩:=Em hT hM ts vs ds q h2 (fun j t' v' a b=>hv (j+1) t' v' (by simpa using a) (by simpa using b)) (fun t' ht=>hok t' (List.mem_cons_of_mem _ ht)) (fun k hk=>hw k (by simp only[DataW.weightsEach,List.mem_append];exact .inr hk))
  refine⟨x::ar,by simp[g1],fun j y hj =>?_,by simp[g3],fun j t' hj =>?_⟩
  ·cases j with
   | zero=>simp only[List.getElem?_cons_zero,Option.some.injEq]at hj;subst hj;exact⟨v,rfl,hx2⟩
   | succ j=>simpa using g2 j y (by simpa using hj)
  ·cases j with
   | zero=>simp only[List.getElem?_cons_zero,Option.some.injEq]at hj;subst hj;exact⟨x,rfl,hx1⟩
   | succ j=>simpa using g4 j t' (by simpa using hj)
 | [],[],_::_,_,h,_,_,_=>h.elim
 | [],_::_,_,_,h,_,_,_=>h.elim
 | _::_,[],_,_,h,_,_,_=>h.elim
 | _::_,_::_,[],_,h,_,_,_=>h.elim
end
end Go.Proofs.YtpkahnkoecbndaaGreatDoor.Am
namespace Go.Proofs.YtpkahnkoecbndaaGreatDoor.Am
open Go.RowKit Go.Deep Go.ChangeShapes Go.WideShapes Go.ChangeAt
set_option linter.unusedSimpArgs false
set_option linter.unusedVariables false
section
variable {H:Type} {enc:TypeId×Value→H} {P:Program}
theorem D4 {f:Func} {s:ChangeSpec} {apart fresh handsOn again:Bool} {W W':World} {args:Array Value} {v:Value} {ds gs:List (DataW H)} {before pa pv:List MemPlace}
  (hW:DataW.Whole enc P f.params.toList s.vars apart W args.toList ds gs before)
  (hres:∀(b:Nat) (sp:Nat→Bool) (hd:Bool),DataW.TrodAll enc P W' b sp hd f.resultTypes.toList (v.resultList f.resultTypes.size) (s.fn H (ds++gs)).results [])
  (hargs:∀sp:Nat→Bool,(∀p∈before,sp p.block=true)→DataW.TrodAll enc P W' 0 sp true f.params.toList args.toList (s.fn H (ds++gs)).args pa)
  (hvars:∀sp:Nat→Bool,(∀p∈before,sp p.block=true)→DataW.TrodVars enc P W' sp s.vars (s.fn H (ds++gs)).vars pv)
  (hps:before=pa++pv) (hb:Below W.heap.size W W')
  (hok:∀(j:Nat) (t:TypeId) (r:Value),f.resultTypes[j]? = some t→(v.resultList f.resultTypes.size)[j]? = some r→Value.okWide P W' .any 0 t r) :
  s.post enc P f apart fresh handsOn again W args v W':=by
 have hlt:∀p∈before,p.block<W.heap.size:=fun p hp=>hW.lt p hp
 have hold:∀p∈before,(fun b=>decide (b<W.heap.size)) p.block=true:=fun p hp=>by simpa using hlt p hp
 refine⟨ds,gs,before,[],pa,pv,hW,hres _ _ _,hargs _ hold,hvars _ hold,World.keptBut_mono (fun p hp=>⟨hp,?_⟩) (hb.frame (·∈before)),fun _ =>?_⟩
 ·rw[hps,List.mem_append]at hp
  exact Or.inr hp
 ·obtain⟨_,_,_,_,_,hz,hn⟩:=hW
  refine⟨hok,_,_,([]++pa)++pv,⟨[]++pa,pv,trodAll_append (hargs _ (fun _ _=>rfl)) (hres _ _ _),hvars _ (fun _ _=>rfl),rfl,?_,?_⟩,?_⟩
  ·intro b off hp
   have hin:MemPlace.cell b off∈before:=by rw[hps];simpa using hp
   rw[hb.frozen (hlt _ hin)]
   exact hz b off hin
  ·intro ha
   have:=hn ha
   rw[hps]at this
   simpa using this
  ·intro p hp _
   rw[hps]
   simpa using hp
theorem vw (hl:laidOutB P=true) {W W':World} {sp':Nat→Bool} : ∀ {ts:List TypeId} {vs:List Value} {ds:List (DataW H)} {ps:List MemPlace},(∀t∈ts,P.readableRec t=true∧t<P.types.size)→DataW.TrodAll enc P W 0 (fun _=>true) true ts vs ds ps →
  (∀p∈ps,W.sameAt W' p)→(∀p∈ps,sp' p.block=true)→DataW.TrodAll enc P W' 0 sp' true ts vs ds ps
 | [],[],[],_,_,h,_,_=>h
 | t::ts,v::vs,d::ds,_,hr,⟨p,q,h1,h2,e⟩,hs,hp=>by
  subst e
  have ht:=hr t (by simp)
  exact⟨p,q,WideElems.Trod_stays hl ht.1 ht.2 h1 (fun x hx=>hs x (List.mem_append_left _ hx)) (fun x hx=>hp x (List.mem_append_left _ hx)),
   vw hl (fun t ht=>hr t (List.mem_cons_of_mem _ ht)) h2 (fun x hx=>hs x (List.mem_append_right _ hx)) (fun x hx=>hp x (List.mem_append_right _ hx)),rfl⟩
end
theorem SS {H:Type} {enc:TypeId×Value→H} {C:Checked} {T:Nat→Option Ty} {f:FuncId} {fn:Func} {s:ChangeSpec} {apart fresh handsOn again:Bool} {tb n:Nat} (hT:k9 C.prog T)
  (hl:laidOutB C.prog=true) (hr:(fn.params.toList.all fun t=>C.prog.readableRec t&&decide (t<C.prog.types.size)&&Ql T n t)=true)
  (hres:fn.resultTypes = #[tb]) (htb:C.prog.underlying tb=some .bool) (hv:s.vars=[])
  (hs:∀ds:List (DataW H),ds.length=fn.params.toList.length→(s.fn H ds).results=[.lit (.bool true)]∧(s.fn H ds).args=ds∧(s.fn H ds).vars=[])
  (law:∀ar:List D,ar.length=fn.params.toList.length→(∀(j:Nat) t,fn.params.toList[j]? = some t→∃x,ar[j]? = some x∧sg T n t x)→LI C.prog f ar (.bool true))
  {W:World} {base:Nat} {args:Array Value} {ds gs:List (DataW H)} {before:List MemPlace}
  (hval:∀(j:Nat) t v,fn.params[j]? = some t→args[j]? = some v→Value.okWide C.prog W .any base t v) (hW:DataW.Whole enc C.prog fn.params.toList s.vars apart W args.toList ds gs before)
  (hsz:(DataW.weightsEach C.prog (fn.params.toList++s.plain.varTypes C.prog) (ds++gs)).all (·≤reachBytes)=true) (hTab:Gs W (fun _=>False)) :
  Calls C.prog f args W fun e W'=>∃v,e=.returned v∧s.post enc C.prog fn apart fresh handsOn again W args v W':=by
 have hW':=hW
 obtain⟨p,q,hA,hV,rfl,hfz,hnd⟩:=hW
 rw[hv]at hV
 obtain⟨rfl,rfl⟩:=trodVars_none hV
 simp only[List.all_eq_true,Bool.and_eq_true,decide_eq_true_eq]at hr
 obtain⟨ar,h1,h2,h3,h4⟩:=Em (P:=C.prog) hT (M:=fun _=>False) (fun b _ _ h=>h) (n:=n) (b0:=base) fn.params.toList args.toList ds p hA
  (fun j t v a b=>hval j t v (by simpa using a) (by simpa using b)) (fun t ht=>(hr t ht).2) (fun k hk=>by
   rw[List.all_eq_true]at hsz
   have hv0:s.plain.varTypes C.prog=[]:=by unfold ChangeSpec.plain;simp only[hv];rfl
   rw[hv0,List.append_nil,List.append_nil]at hsz
   have h:=hsz k hk
   rw[decide_eq_true_eq]at h
   exact h)
 refine (law ar h3 h4 W (fun _=>False) args (fun b h=>h.elim) ⟨by simpa using h1.symm,fun j x hj =>?_,hTab⟩).mono fun e W' hG =>?_
 ·obtain⟨v,g1,g2⟩:=h2 j x hj
  have g1':args[j]? = some v:=by simpa using g1
  rw[Array.getD_eq_getD_getElem?,g1']
  exact g2
 ·obtain⟨v,rfl,hb,hv1⟩:=hG
  have hv2:RP W' (fun _=>False) (.bool true) v:=hv1
  cases hv2
  have hlen:ds.length=fn.params.toList.length:=by
   have:∀ {ts:List TypeId} {vs:List Value} {ds:List (DataW H)} {ps:List MemPlace},DataW.TrodAll enc C.prog W 0 (fun _=>true) true ts vs ds ps→ds.length=ts.length:=by
    intro ts
    induction ts with
    | nil=>intro vs ds ps h;cases vs<;>cases ds<;>first|rfl|exact h.elim
    | cons t ts ih =>
     intro vs ds ps h
     cases vs with
     | nil=>exact h.elim
     | cons v vs=>cases ds with
      | nil=>exact h.elim
      | cons d ds=>obtain⟨_,_,_,h2,_⟩:=h;simp[ih h2]
   exact this hA
  obtain⟨e1,e2,e3⟩:=hs ds hlen
  refine⟨_,rfl,D4 (pa:=p) (pv:=[]) hW' ?_ ?_ ?_ (by simp) hb ?_⟩
  ·intro b sp hd
   rw[List.append_nil,e1,hres]
   exact trodAll_mk1 ⟨1,by simp[DataW.trod,htb,Value.cells]⟩
  ·intro sp hsp
   rw[List.append_nil,e2]
   refine vw hl (fun t ht=>(hr t ht).1) hA (fun x hx=>hb.same (hW'.lt x (by simpa using hx))) (fun x hx=>hsp x (by simpa using hx))
  ·intro sp _
   rw[List.append_nil,e3,hv]
   rfl
  ·exact ok_one hres rfl (by simp[Value.okWide,htb,Cell.okWide,Cell.ok])
theorem SU {H:Type} {enc:TypeId×Value→H} {C:Checked} {os:Os} {T:Nat→Option Ty} {f:FuncId} {fn:Func} {s:ChangeSpec} {conds:List PathCond} {apart fresh handsOn again:Bool} {tb n:Nat} {X:World→Array Value→Prop}
  (hX:∀(w w':World) (args:Array Value),w.heap=w'.heap→X w args→X w' args) (hTab:∀(w:World) (args:Array Value),X w args→Gs w (fun _=>False))
  (hT:k9 C.prog T) (own:ownKnob C.prog.godebug=none) (started:os.Started) (noInit:C.prog.inits.idxOf? f=none) (hfn:C.prog.funcs[f]? = some fn)
  (witness:∃(w:World) (tape:Tape) (i:Input),w.os=os∧(w.forCall tape i).Shaped C.prog∧i.vars=[]∧Input.okWide C.prog (w.forCall tape i) .any w.heap.size f i ∧
   ((s.pre enc C.prog fn conds apart (w.forCall tape i).memory i.args∧X (w.forCall tape i).memory i.args)∧sizedMet enc C.prog fn (OpenSpec.ofChange s) apart (w.forCall tape i).memory i.args)∧({} : Assume).holds C.prog (lone (Frame.enter C.prog f i.args .normal) [] (w.forCall tape i)))
  (hl:laidOutB C.prog=true) (hr:(fn.params.toList.all fun t=>C.prog.readableRec t&&decide (t<C.prog.types.size)&&Ql T n t)=true)
  (hres:fn.resultTypes = #[tb]) (htb:C.prog.underlying tb=some .bool) (hv:s.vars=[])
  (hs:∀ds:List (DataW H),ds.length=fn.params.toList.length→(s.fn H ds).results=[.lit (.bool true)]∧(s.fn H ds).args=ds∧(s.fn H ds).vars=[])
  (law:∀ar:List D,ar.length=fn.params.toList.length→(∀(j:Nat) t,fn.params.toList[j]? = some t→∃x,ar[j]? = some x∧sg T n t x)→LI C.prog f ar (.bool true)) :
  ReturnsInHanded {} C os f .any (fun w args=>(s.pre enc C.prog fn conds apart w args∧X w args)∧sizedMet enc C.prog fn (OpenSpec.ofChange s) apart w args) (s.post enc C.prog fn apart fresh handsOn again):=by
 refine returnsInHanded_of_change_and hX own started noInit hfn witness ?_
 intro W base args ds gs before hval hW _ hsz hx _
 exact SS hT hl hr hres htb hv hs law hval hW hsz (hTab W args hx)
end Go.Proofs.YtpkahnkoecbndaaGreatDoor.Am
namespace Go.Proofs.YtpkahnkoecbndaaGreatDoor.Am
open Go.RowKit
set_option linter.unusedSimpArgs false
set_option linter.unusedVariables false
theorem W0 {T:Nat→Option Ty} {n t:Nat} {ar:List D} (h:ar.length=[t].length) (hs:∀(j:Nat) u,[t][j]? = some u→∃x,ar[j]? = some x∧sg T n u x):∃a,ar=[a]∧sg T n t a:=by
 match ar,h with
 | [a],_=>obtain⟨x,h1,h2⟩:=hs 0 t rfl;cases h1;exact⟨a,rfl,h2⟩
theorem W1 {T:Nat→Option Ty} {n t:Nat} {ts:List Nat} {ar:List D} (h:ar.length=(t::ts).length) (hs:∀(j:Nat) u,(t::ts)[j]? = some u→∃x,ar[j]? = some x∧sg T n u x) :
  ∃a Zo,ar=a::Zo∧sg T n t a∧Zo.length=ts.length∧∀(j:Nat) u,ts[j]? = some u→∃x,Zo[j]? = some x∧sg T n u x:=by
 match ar,h with
 | a::Zo,h =>
  obtain⟨x,h1,h2⟩:=hs 0 t rfl
  cases h1
  exact⟨a,Zo,rfl,h2,by simpa using h,fun j u hu=>by simpa using hs (j+1) u (by simpa using hu)⟩
section
variable {T:Nat→Option Ty} {n t:Nat} {τ:Ty} {d:D}
theorem Ui {k:IntKind} (h:sg T (n+1) t d) (hτ:T t=some τ) (hd:τ.ds=.int k):∃i,d=.int k i∧(Lit.int k i).wf=true:=by
 simp only[sg,hτ,hd,Ds.ot,Bool.false_eq_true,if_false,An]at h
 obtain⟨_,i,hi,hw⟩:=h
 cases hi
 exact⟨i,rfl,hw⟩
theorem LS {fs:List (Nat×Nat)} (h:sg T n t d) (hτ:T t=some τ) (hd:τ.ds=.struct fs):∃xs,d=.agg xs∧An T n t xs:=by
 simp only[sg,hτ,hd,Ds.ot,if_true]at h
 exact h
theorem U5 {k:IntKind} {xs:List D} (h:An T (n+1) t xs) (hτ:T t=some τ) (hd:τ.ds=.int k):∃i,xs=[.int k i]∧(Lit.int k i).wf=true:=by
 simp only[An,hτ,hd]at h
 exact h.2
theorem U6 {xs:List D} (h:An T (n+1) t xs) (hτ:T t=some τ) (hd:τ.ds=.str):∃s:ByteArray,xs=[.str s]∧s.size≤140737488351232:=by
 simp only[An,hτ,hd]at h
 exact h.2
theorem QI {e:Nat} {φ:Ty} {xs:List D} (h:An T (n+1) t xs) (hτ:T t=some τ) (hd:τ.ds=.slice e) (hφ:T e=some φ) :
  ∃len ys,xs=[.sl false false len ys]∧len*φ.bytes≤140737488351232∧ys.length=len*φ.size∧∀i,i<len→An T n e ((ys.drop (i*φ.size)).take φ.size):=by
 simp only[An,hτ,hd]at h
 obtain⟨_,len,ys,ψ,h1,h3,h4,h5,h6⟩:=h
 rw[hφ]at h4
 cases h4
 exact⟨len,ys,h1,h3,h5,h6⟩
theorem No {fs:List (Nat×Nat)} {xs:List D} (h:An T (n+1) t xs) (hτ:T t=some τ) (hd:τ.ds=.struct fs):xs.length=τ.size∧∀f∈fs,∃φ,T f.1=some φ∧An T n f.1 ((xs.drop f.2).take φ.size):=by
 simp only[An,hτ,hd]at h
 exact h
end
end Go.Proofs.YtpkahnkoecbndaaGreatDoor.Am
namespace Go.Proofs.YtpkahnkoecbndaaGreatDoor.Am
open Go.RowKit Go.Proofs.YtpkahnkoecbndaaGreatDoor.P
set_option linter.unusedSimpArgs false
set_option linter.unusedVariables false
def H3 {α:Type} (T:Nat→Option Ty) (n t:Nat) (E:jJ α) (ok:α→Prop):Prop:=(∃φ,T t=some φ∧φ.size=E.size)∧∀xs,An T n t xs→∃x,xs=E.cells x∧ok x
section
variable {T:Nat→Option Ty} {n t:Nat} {τ:Ty}
theorem Zn {k:IntKind} (hτ:T t=some τ) (hd:τ.ds=.int k) (hs:τ.size=1):H3 T (n+1) t (eI k) (fun i=>(Lit.int k i).wf=true):=⟨⟨τ,hτ,hs⟩,fun _ h=>U5 h hτ hd⟩
theorem Xp (hτ:T t=some τ) (hd:τ.ds=.str) (hs:τ.size=1):H3 T (n+1) t eU (fun s=>s.size≤140737488351232):=⟨⟨τ,hτ,hs⟩,fun _ h=>U6 h hτ hd⟩
theorem VP {α:Type} (E:jJ α) (ok:α→Prop):∀(len:Nat) (ys:List D),ys.length=len*E.size→(∀i,i<len→∃x,(ys.drop (i*E.size)).take E.size=E.cells x∧ok x)→∃l:List α,l.length=len∧ys=ab E l∧∀x∈l,ok x
 | 0,ys,hl,_=>⟨[],rfl,by simpa [ab] using hl,fun x hx=>by simp at hx⟩
 | len+1,ys,hl,h=>by
  obtain⟨x,hx,hok⟩:=h 0 (by omega)
  obtain⟨l,h1,h2,h3⟩:=VP E ok len (ys.drop E.size) (by rw[List.length_drop,hl,Nat.succ_mul];omega) (fun i hi=>by
   obtain⟨y,hy,hy2⟩:=h (i+1) (by omega)
   refine⟨y,?_,hy2⟩
   rw[List.drop_drop]
   rw[Nat.succ_mul,Nat.add_comm]at hy
   exact hy)
  rw[Nat.zero_mul,List.drop_zero]at hx
  refine⟨x::l,by simp[h1],?_,fun y hy =>?_⟩
  ·rw[aM,← h2,← hx,List.take_append_drop]
  ·rcases List.mem_cons.1 hy with rfl|hy
   ·exact hok
   ·exact h3 y hy
theorem Wp {α:Type} {E:jJ α} {ok:α→Prop} {e:Nat} (hτ:T t=some τ) (hd:τ.ds=.slice e) (hs:τ.size=1) {B:Nat} (hB:(T e).map (·.bytes)=some B) (he:H3 T n e E ok):H3 T (n+1) t (rG E) (fun l=>l.length*B≤140737488351232∧∀x∈l,ok x):=by
 obtain⟨⟨φ,hφ,hz⟩,hx⟩:=he
 have hb:φ.bytes=B:=by rw[hφ]at hB;simpa using hB
 refine⟨⟨τ,hτ,hs⟩,fun xs h =>?_⟩
 obtain⟨len,ys,h1,h2,h3,h4⟩:=QI h hτ hd hφ
 rw[hz]at h3 h4
 rw[hb]at h2
 obtain⟨l,k1,k2,k3⟩:=VP E ok len ys h3 fun i hi=>hx _ (h4 i hi)
 subst k1 k2
 exact⟨l,h1,h2,k3⟩
def Yk {α:Type} (T:Nat→Option Ty) (n:Nat) (fs:List (Nat×Nat)) (o:Nat) (E:jJ α) (ok:α→Prop):Prop :=
 ∀xs:List D,xs.length=o+E.size→(∀f∈fs,∃φ,T f.1=some φ∧An T n f.1 ((xs.drop f.2).take φ.size))→∃x,xs.drop o=E.cells x∧ok x
theorem UO {α:Type} {E:jJ α} {ok:α→Prop} {ft o:Nat} (h:H3 T n ft E ok):Yk T n [(ft,o)] o E ok:=by
 obtain⟨⟨φ,hφ,hz⟩,hx⟩:=h
 intro xs hl hf
 obtain⟨ψ,h1,h2⟩:=hf (ft,o) (by simp)
 cases hφ.symm.trans h1
 rw[List.take_of_length_le (by rw[List.length_drop];omega)]at h2
 exact hx _ h2
theorem D2 {α β:Type} {E:jJ α} {ok:α→Prop} {E':jJ β} {ok':β→Prop} {ft o o':Nat} {fs:List (Nat×Nat)} (h:H3 T n ft E ok) (ho:o'=o+E.size) (h':Yk T n fs o' E' ok'):Yk T n ((ft,o)::fs) o (kx E E') (fun x=>ok x.1∧ok' x.2):=by
 subst ho
 obtain⟨⟨φ,hφ,hz⟩,hx⟩:=h
 intro xs hl hf
 obtain⟨ψ,h1,h2⟩:=hf (ft,o) (by simp)
 cases hφ.symm.trans h1
 obtain⟨x,hx1,hx2⟩:=hx _ h2
 obtain⟨y,hy1,hy2⟩:=h' xs (by rw[hl];show o+(E.size+E'.size)=_;omega) fun f hf'=>hf f (List.mem_cons_of_mem _ hf')
 refine⟨(x,y),?_,hx2,hy2⟩
 show xs.drop o=E.cells x++E'.cells y
 rw[← hx1,← hy1,← hz,← List.drop_drop,List.take_append_drop]
theorem Ys {α β:Type} {E:jJ β} {ok:β→Prop} {f:α→β} {hf:∀x y,f x=f y→x=y} {g:β→α} {fs:List (Nat×Nat)} (hτ:T t=some τ) (hd:τ.ds=.struct fs) (hs:τ.size=E.size) (hg:∀y,f (g y)=y) (h:Yk T n fs 0 E ok):H3 T (n+1) t (zW E f hf) (fun x=>ok (f x)):=by
 refine⟨⟨τ,hτ,hs⟩,fun xs hx =>?_⟩
 obtain⟨h1,h2⟩:=No hx hτ hd
 obtain⟨y,h3,h4⟩:=h xs (by rw[h1,hs,Nat.zero_add]) h2
 refine⟨g y,?_,?_⟩
 ·show xs=E.cells (f (g y))
  rw[hg,← h3,List.drop_zero]
 ·show ok (f (g y))
  rw[hg];exact h4
def Yj {α:Type} (T:Nat→Option Ty) (n t:Nat) (A:Arg α) (ok:α→Prop):Prop:=∀d,sg T n t d→∃x,d=A.d x∧ok x
theorem YY {k:IntKind} (hτ:T t=some τ) (hd:τ.ds=.int k):Yj T (n+1) t (aI k) (fun i=>(Lit.int k i).wf=true):=fun _ h=>Ui h hτ hd
theorem YJ {α:Type} {E:jJ α} {ok:α→Prop} {fs:List (Nat×Nat)} (hτ:T t=some τ) (hd:τ.ds=.struct fs) (hE:H3 T n t E ok):Yj T n t (cR E) ok:=fun d h=>by
 obtain⟨xs,rfl,h1⟩:=LS h hτ hd
 obtain⟨x,h1,h2⟩:=hE.2 _ h1
 exact⟨x,by rw[h1];rfl,h2⟩
def QW {α:Type} (T:Nat→Option Ty) (n:Nat) (ts:List Nat) (A:mr α) (ok:α→Prop):Prop:=∀ar:List D,ar.length=ts.length→(∀(j:Nat) u,ts[j]? = some u→∃x,ar[j]? = some x∧sg T n u x)→∃x,ar=A.ds x∧ok x
theorem YK {α:Type} {A:Arg α} {ok:α→Prop} (h:Yj T n t A ok):QW T n [t] (dK A) ok:=fun ar hl hs=>by
 obtain⟨a,rfl,ha⟩:=W0 hl hs
 obtain⟨x,rfl,hx⟩:=h a ha
 exact⟨x,rfl,hx⟩
theorem UJ {α β:Type} {A:Arg α} {ok:α→Prop} {B:mr β} {ok':β→Prop} {ts:List Nat} (h:Yj T n t A ok) (h':QW T n ts B ok'):QW T n (t::ts) (dR A B) (fun x=>ok x.1∧ok' x.2):=fun ar hl hs=>by
 obtain⟨a,ar,rfl,ha,hl',hs'⟩:=W1 hl hs
 obtain⟨x,rfl,hx⟩:=h a ha
 obtain⟨y,rfl,hy⟩:=h' ar hl' hs'
 exact⟨(x,y),rfl,hx,hy⟩
theorem Wi {P:Program} {f:FuncId} {α:Type} {A:mr α} {F:α→Option Bool} {ok:α→Prop} {ts:List Nat} (ho:QW T n ts A ok) (hG:bN P f (eB A F (fun r =>.clean (.bool r)))) (h:∀x,ok x→F x=some true) (ar:List D) (hl:ar.length=ts.length)
  (hs:∀(j:Nat) u,ts[j]? = some u→∃x,ar[j]? = some x∧sg T n u x):LI P f ar (.bool true):=by
 obtain⟨x,rfl,hx⟩:=ho ar hl hs
 refine hG.calls none _ _ none ?_
 rw[aJ,h x hx]
 rfl
end
end Go.Proofs.YtpkahnkoecbndaaGreatDoor.Am
namespace Go.Proofs.YtpkahnkoecbndaaGreatDoor.P
open Go.RowKit
set_option linter.unusedSimpArgs false
set_option linter.unusedVariables false
def B9 (n:Int):ByteArray:=⟨(Lib.itoa n).toArray⟩
def Xh (n:Int):Option ByteArray:=if -9223372036854775808≤n∧n≤9223372036854775807 then some (B9 n) else none
def iD (l:List Int):List UInt8:=l.flatMap fun x=>Lib.itoa x++[59]
def mF (l:List Int):List UInt8:=Lib.itoa l.length++(91::(iD l++[93]))
def OK (l:List Int):Option ByteArray:=if (∀x∈l,-9223372036854775808≤x∧x≤9223372036854775807)∧l.length*8≤140737488351232∧(mF l).length≤140737488355328 then some ⟨(mF l).toArray⟩ else none
def Oc (l:List Int):Option (List Int):=if l.length≤9223372036854775807 then some (Lib.compact l) else none
def AB (l:List Int):Option (List Int):=some l
def xn (l:List Int):Option (List Int):=if l.length*8≤140737488351232 then some (fU l) else none
def Wg {α:Type} (bytes:Nat) (l:List α) (i:Int) (xs:List α):Option (List α):=if 0≤i∧i≤l.length∧0<xs.length∧(l.length+xs.length)*bytes≤140737488355328 then some (l.take i.toNat++(xs++l.drop i.toNat)) else none
def zj {α:Type} (mk:ByteArray→Int→Int→Int→Int→α) (val bl:α→Int) (l:List α) (p:Int×Int):Option α:=(P.idx l p.1).bind fun x=>(P.idx l p.2).bind fun y=>some (mk ⟨#[]⟩ (IntKind.i64.wrap (val x+val y)) (IntKind.i64.wrap (bl x+bl y)) p.1 p.2)
def H6 {α:Type} (_:List α) (x:α):Option α:=some x
end Go.Proofs.YtpkahnkoecbndaaGreatDoor.P
namespace Go.Proofs
open Go.Shelf
def Tryz.JS:Go.Shelf.Ren:=⟨fun|189=>69|125=>107|257=>106|128=>148|129=>149|294=>139|295=>140|296=>141|297=>142|298=>143|299=>144|216=>145|300=>146|301=>147|328=>170|329=>171|330=>172|331=>173|332=>174|215=>166|343=>180|n=>n,fun|28=>25|3=>3|46=>141|0=>0|51=>176|53=>178|4=>4|183=>170|182=>169|131=>160|5=>5|9=>9|218=>185|222=>189|228=>195|229=>196|n=>n,fun|n=>n⟩
theorem Tryz.G3:Go.Proofs.Lays.n189 Tryz.prog Tryz.JS:={
 mixed:=by kernel_rfl
 f125:=Tryz.func107.trans (congrArg some (by kernel_rfl))
 f128:=Tryz.func148.trans (congrArg some (by kernel_rfl))
 f129:=Tryz.func149.trans (congrArg some (by kernel_rfl))
 f189:=Tryz.func69.trans (congrArg some (by kernel_rfl))
 f215:=Tryz.func166.trans (congrArg some (by kernel_rfl))
 f216:=Tryz.func145.trans (congrArg some (by kernel_rfl))
 f257:=Tryz.func106.trans (congrArg some (by kernel_rfl))
 f294:=Tryz.func139.trans (congrArg some (by kernel_rfl))
 f295:=Tryz.func140.trans (congrArg some (by kernel_rfl))
 f296:=Tryz.func141.trans (congrArg some (by kernel_rfl))
 f297:=Tryz.func142.trans (congrArg some (by kernel_rfl))
 f298:=Tryz.func143.trans (congrArg some (by kernel_rfl))
 f299:=Tryz.func144.trans (congrArg some (by kernel_rfl))
 f300:=Tryz.func146.trans (congrArg some (by kernel_rfl))
 f301:=Tryz.func147.trans (congrArg some (by kernel_rfl))
 f328:=Tryz.func170.trans (congrArg some (by kernel_rfl))
 f329:=Tryz.func171.trans (congrArg some (by kernel_rfl))
 f330:=Tryz.func172.trans (congrArg some (by kernel_rfl))
 f331:=Tryz.func173.trans (congrArg some (by kernel_rfl))
 f332:=Tryz.func174.trans (congrArg some (by kernel_rfl))
 f343:=Tryz.func180.trans (congrArg some (by kernel_rfl))
 t0:=Tryz.underlying0
 a0:=Tryz.isAgg0
 z0:=Tryz.sizeOf0
 v0:=Tryz.zeroValue0
 t3:=Tryz.underlying3
 a3:=Tryz.isAgg3
 z3:=Tryz.sizeOf3
 v3:=Tryz.zeroValue3
 t4:=Tryz.underlying4
 a4:=Tryz.isAgg4
 z4:=Tryz.sizeOf4
 v4:=Tryz.zeroValue4
 t5:=Tryz.underlying5
 a5:=Tryz.isAgg5
 z5:=Tryz.sizeOf5
 v5:=Tryz.zeroValue5
 t9:=Tryz.underlying9
 a9:=Tryz.isAgg9
 z9:=Tryz.sizeOf9
 v9:=Tryz.zeroValue9
 t28:=Tryz.underlying25
 a28:=Tryz.isAgg25
 z28:=Tryz.sizeOf25
 v28:=Tryz.zeroValue25
 t46:=Tryz.underlying141
 a46:=Tryz.isAgg141
 z46:=Tryz.sizeOf141
 v46:=Tryz.zeroValue141
 t51:=Tryz.underlying176
 a51:=Tryz.isAgg176
 z51:=Tryz.sizeOf176
 v51:=Tryz.zeroValue176
 t53:=Tryz.underlying178
 a53:=Tryz.isAgg178
 z53:=Tryz.sizeOf178
 v53:=Tryz.zeroValue178
 t131:=Tryz.underlying160
 a131:=Tryz.isAgg160
 z131:=Tryz.sizeOf160
 v131:=Tryz.zeroValue160
 t182:=Tryz.underlying169
 a182:=Tryz.isAgg169
 z182:=Tryz.sizeOf169
 v182:=Tryz.zeroValue169
 t183:=Tryz.underlying170
 a183:=Tryz.isAgg170
 z183:=Tryz.sizeOf170
 v183:=Tryz.zeroValue170
 t218:=Tryz.underlying185
 a218:=Tryz.isAgg185
 z218:=Tryz.sizeOf185
 v218:=Tryz.zeroValue185
 t222:=Tryz.underlying189
 a222:=Tryz.isAgg189
 z222:=Tryz.sizeOf189
 v222:=Tryz.zeroValue189
 t228:=Tryz.underlying195
 a228:=Tryz.isAgg195
 z228:=Tryz.sizeOf195
 v228:=Tryz.zeroValue195
 t229:=Tryz.underlying196
 a229:=Tryz.isAgg196
 z229:=Tryz.sizeOf196
 v229:=Tryz.zeroValue196 }
def Tryz.G4:Go.Shelf.Ren:=⟨fun|171=>121|243=>161|246=>179|283=>181|284=>182|285=>183|286=>184|129=>149|317=>185|318=>186|319=>187|320=>188|337=>189|338=>190|n=>n,fun|3=>3|9=>9|2=>2|4=>4|171=>198|0=>0|53=>178|37=>148|5=>5|173=>200|212=>204|51=>176|20=>20|213=>205|46=>141|232=>206|233=>207|n=>n,fun|17=>0|18=>1|19=>2|n=>n⟩
theorem Tryz.Sj:Go.Proofs.LaysM.n171 Tryz.prog Tryz.G4:={
 mixed:=by kernel_rfl
 f129:=Tryz.func149.trans (congrArg some (by kernel_rfl))
 f171:=Tryz.func121.trans (congrArg some (by kernel_rfl))
 f243:=Tryz.func161.trans (congrArg some (by kernel_rfl))
 f246:=Tryz.func179.trans (congrArg some (by kernel_rfl))
 f283:=Tryz.func181.trans (congrArg some (by kernel_rfl))
 f284:=Tryz.func182.trans (congrArg some (by kernel_rfl))
 f285:=Tryz.func183.trans (congrArg some (by kernel_rfl))
 f286:=Tryz.func184.trans (congrArg some (by kernel_rfl))
 f317:=Tryz.func185.trans (congrArg some (by kernel_rfl))
 f318:=Tryz.func186.trans (congrArg some (by kernel_rfl))
 f319:=Tryz.func187.trans (congrArg some (by kernel_rfl))
 f320:=Tryz.func188.trans (congrArg some (by kernel_rfl))
 f337:=Tryz.func189.trans (congrArg some (by kernel_rfl))
 f338:=Tryz.func190.trans (congrArg some (by kernel_rfl))
 t0:=Tryz.underlying0
 a0:=Tryz.isAgg0
 z0:=Tryz.sizeOf0
 v0:=Tryz.zeroValue0
 t2:=Tryz.underlying2
 a2:=Tryz.isAgg2
 z2:=Tryz.sizeOf2
 v2:=Tryz.zeroValue2
 t3:=Tryz.underlying3
 a3:=Tryz.isAgg3
 z3:=Tryz.sizeOf3
 v3:=Tryz.zeroValue3
 t4:=Tryz.underlying4
 a4:=Tryz.isAgg4
 z4:=Tryz.sizeOf4
 v4:=Tryz.zeroValue4
 t5:=Tryz.underlying5
 a5:=Tryz.isAgg5
 z5:=Tryz.sizeOf5
 v5:=Tryz.zeroValue5
 t9:=Tryz.underlying9
 a9:=Tryz.isAgg9
 z9:=Tryz.sizeOf9
 v9:=Tryz.zeroValue9
 t20:=Tryz.underlying20
 a20:=Tryz.isAgg20
 z20:=Tryz.sizeOf20
 v20:=Tryz.zeroValue20
 t37:=Tryz.underlying148
 a37:=Tryz.isAgg148
 z37:=Tryz.sizeOf148
 v37:=Tryz.zeroValue148
 t46:=Tryz.underlying141
 a46:=Tryz.isAgg141
 z46:=Tryz.sizeOf141
 v46:=Tryz.zeroValue141
 t51:=Tryz.underlying176
 a51:=Tryz.isAgg176
 z51:=Tryz.sizeOf176
 v51:=Tryz.zeroValue176
 t53:=Tryz.underlying178
 a53:=Tryz.isAgg178
 z53:=Tryz.sizeOf178
 v53:=Tryz.zeroValue178
 t171:=Tryz.underlying198
 a171:=Tryz.isAgg198
 z171:=Tryz.sizeOf198
 v171:=Tryz.zeroValue198
 t173:=Tryz.underlying200
 a173:=Tryz.isAgg200
 z173:=Tryz.sizeOf200
 v173:=Tryz.zeroValue200
 t212:=Tryz.underlying204
 a212:=Tryz.isAgg204
 z212:=Tryz.sizeOf204
 v212:=Tryz.zeroValue204
 t213:=Tryz.underlying205
 a213:=Tryz.isAgg205
 z213:=Tryz.sizeOf205
 t232:=Tryz.underlying206
 a232:=Tryz.isAgg206
 z232:=Tryz.sizeOf206
 v232:=Tryz.zeroValue206
 t233:=Tryz.underlying207
 a233:=Tryz.isAgg207
 z233:=Tryz.sizeOf207
 v233:=Tryz.zeroValue207
 g17:=by kernel_rfl
 g18:=by kernel_rfl
 g19:=by kernel_rfl
 i0:=by kernel_rfl
 i2:=by kernel_rfl
 i3:=by kernel_rfl
 i4:=by kernel_rfl
 i5:=by kernel_rfl
 i9:=by kernel_rfl
 i20:=by kernel_rfl
 i37:=by kernel_rfl
 i46:=by kernel_rfl
 i51:=by kernel_rfl
 i53:=by kernel_rfl
 i171:=by kernel_rfl
 i173:=by kernel_rfl
 i212:=by kernel_rfl
 i232:=by kernel_rfl
 i233:=by kernel_rfl
 m17:=by kernel_rfl
 m18:=by kernel_rfl
 m19:=by kernel_rfl }
def Tryz.zd:Go.Shelf.Ren:=⟨fun|169=>122|n=>n,fun|70=>147|9=>9|0=>0|72=>150|37=>148|127=>181|3=>3|5=>5|n=>n,fun|n=>n⟩
theorem Tryz.UD:Go.Proofs.Lays.n169 Tryz.prog Tryz.zd:={
 mixed:=by kernel_rfl
 f169:=Tryz.func122.trans (congrArg some (by kernel_rfl))
 t0:=Tryz.underlying0
 a0:=Tryz.isAgg0
 z0:=Tryz.sizeOf0
 v0:=Tryz.zeroValue0
 t3:=Tryz.underlying3
 a3:=Tryz.isAgg3
 z3:=Tryz.sizeOf3
 v3:=Tryz.zeroValue3
 t9:=Tryz.underlying9
 a9:=Tryz.isAgg9
 z9:=Tryz.sizeOf9
 v9:=Tryz.zeroValue9
 t37:=Tryz.underlying148
 a37:=Tryz.isAgg148
 z37:=Tryz.sizeOf148
 v37:=Tryz.zeroValue148
 t70:=Tryz.underlying147
 a70:=Tryz.isAgg147
 z70:=Tryz.sizeOf147
 v70:=Tryz.zeroValue147
 t72:=Tryz.underlying150
 a72:=Tryz.isAgg150
 z72:=Tryz.sizeOf150
 v72:=Tryz.zeroValue150
 t127:=Tryz.underlying181
 a127:=Tryz.isAgg181
 z127:=Tryz.sizeOf181
 v127:=Tryz.zeroValue181 }
def Tryz.Mp:Go.Shelf.Ren:=⟨fun|20=>70|n=>n,fun|22=>25|3=>3|4=>4|0=>0|n=>n,fun|n=>n⟩
theorem Tryz.Si:Go.Proofs.Lays2.n20 Tryz.prog Tryz.Mp:={
 mixed:=by kernel_rfl
 f20:=Tryz.func70.trans (congrArg some (by kernel_rfl))
 t0:=Tryz.underlying0
 a0:=Tryz.isAgg0
 z0:=Tryz.sizeOf0
 v0:=Tryz.zeroValue0
 t3:=Tryz.underlying3
 a3:=Tryz.isAgg3
 z3:=Tryz.sizeOf3
 v3:=Tryz.zeroValue3
 t4:=Tryz.underlying4
 a4:=Tryz.isAgg4
 z4:=Tryz.sizeOf4
 v4:=Tryz.zeroValue4
 t22:=Tryz.underlying25
 a22:=Tryz.isAgg25
 z22:=Tryz.sizeOf25
 v22:=Tryz.zeroValue25
 i3:=by kernel_rfl }
def Tryz.Mq:Go.Shelf.Ren:=⟨fun|21=>85|27=>117|28=>118|35=>157|39=>177|n=>n,fun|22=>25|3=>3|4=>4|0=>0|n=>n,fun|n=>n⟩
theorem Tryz.Wj:Go.Proofs.Lays2.n21 Tryz.prog Tryz.Mq:={
 mixed:=by kernel_rfl
 f21:=Tryz.func85.trans (congrArg some (by kernel_rfl))
 f27:=Tryz.func117.trans (congrArg some (by kernel_rfl))
 f28:=Tryz.func118.trans (congrArg some (by kernel_rfl))
 f35:=Tryz.func157.trans (congrArg some (by kernel_rfl))
 f39:=Tryz.func177.trans (congrArg some (by kernel_rfl))
 t0:=Tryz.underlying0
 a0:=Tryz.isAgg0
 z0:=Tryz.sizeOf0
 v0:=Tryz.zeroValue0
 t3:=Tryz.underlying3
 a3:=Tryz.isAgg3
 z3:=Tryz.sizeOf3
 v3:=Tryz.zeroValue3
 t4:=Tryz.underlying4
 a4:=Tryz.isAgg4
 z4:=Tryz.sizeOf4
 v4:=Tryz.zeroValue4
 t22:=Tryz.underlying25
 a22:=Tryz.isAgg25
 z22:=Tryz.sizeOf25
 v22:=Tryz.zeroValue25
 i3:=by kernel_rfl }
theorem Tryz.RX:Builder.Extra Tryz.prog Tryz.zd:={
 sizeBuilder:=by kernel_rfl
 liesBuilder:=by kernel_rfl
 t5:=Tryz.underlying5
 a5:=Tryz.isAgg5
 z5:=Tryz.sizeOf5
 v5:=Tryz.zeroValue5
 infoByte:=by kernel_rfl
 cellsByte:=by kernel_rfl
 sizeByte:=by kernel_rfl
 neB5:=by decide }
end Go.Proofs
namespace Go.Proofs.YtpkahnkoecbndaaGreatDoor.Am
open Go.RowKit Go.Proofs.YtpkahnkoecbndaaGreatDoor.P
set_option linter.unusedSimpArgs false
set_option linter.unusedVariables false
theorem UB {α:Type} (E:jJ α) {B:Nat} {l n:List α} {i:Int} {x:α} (h:Wg B l i [x]=some n):0≤i∧i≤(l.length:Int)∧l.length+1=n.length∧n.length*B≤140737488355328 ∧
  (ab E l).take (i.toNat*E.size)++(E.cells x++(ab E l).drop (i.toNat*E.size))=ab E n:=by
 unfold Wg at h
 split at h
 ·rename_i hc
  cases h
  obtain⟨h1,h2,-,h4⟩:=hc
  have hl:l.length+1=(l.take i.toNat++([x]++l.drop i.toNat)).length:=by simp;omega
  refine⟨h1,h2,hl,by rw[← hl];exact h4,?_⟩
  rw[fN,fN,fl,tP]
  simp[ab]
 ·cases h
theorem QY {w:World} {M:Nat→Prop} {k:IntKind} {n:Int} {u:Value} (h:RP w M (.int k n) u):u=.int k n:=by cases h;rfl
theorem Gr {w:World} {M:Nat→Prop} {k:IntKind} {l:List Int} {u:Value} (h:RP w M (.sl false false l.length (ab (eI k) l)) u) :
  ∃A c,u=.slice A l.length c∧l.length≤c∧c≤maxLen∧(A=none→l.length=0∧c=0)∧(l≠[]→∃b o,A=some ⟨b,o,none⟩∧b<w.heap.size∧¬M b∧∀j,j<l.length→w.cell? ⟨b,o+j,none⟩=some (.int k (l.getD j 0))):=by
 cases h with
 | sl A c nl tight n xs us h1 h2 h3 h4 h5 h6 h7 h8 =>
  refine⟨A,c,rfl,h1,h2,h4,fun hl =>?_⟩
  have hne:ab (eI k) l≠[]:=by
   intro he
   have:=congrArg List.length he
   rw[cl]at this
   exact hl (List.eq_nil_of_length_eq_zero this)
  obtain⟨b,o,rfl,hb,hM,hc⟩:=h6 hne
  refine⟨b,o,rfl,hb,hM,fun j hj =>?_⟩
  rw[hc j (by rw[cl];exact hj)]
  have hg:(ab (eI k) l)[j]? = some (.int k (l.getD j 0)):=by rw[iQ];simp[List.getD,hj]
  rw[QY (h7 j _ hg)]
theorem Nu {vs:Array Value} (h:vs.size=1):vs = #[vs.getD 0 undef]:=by
 apply Array.ext
 ·simp[h]
 ·intro i h1 h2
  have:i=0:=by omega
  subst this
  simp[Array.getElem?_eq_getElem h1]
theorem U3 {P:Program} {f:FuncId} {fn:Func} {α:Type} {A:Arg α} {F:α→Option ByteArray} (hf:P.funcs[f]? = some fn) (hc:(fn.name == "runtime.NumGoroutine")=false∧fn.body.isNone=false)
  (hC:∀x r,F x=some r→∀(w:World) (M:Nat→Prop) (u:Value),RP w M (A.d x) u→Gs w M→Calls P f #[u] w fun e w'=>e=.returned (.string r)∧Below w.heap.size w w'):bN P f (eB (dK A) F (fun r =>.clean (.str r))) where
 callable:=⟨fn,hf,hc⟩
 calls lent ds rk out hg:=by
  obtain⟨rfl,rfl,a,r,rfl,hr,rfl⟩:=pK hg
  intro w M vs hM hargs
  have hsz:vs.size=1:=hargs.size
  rw[Nu hsz]
  refine (hC a r hr w M _ (hargs.at_ 0 _ rfl) hargs.tab).mono fun e w' ⟨he,hb⟩=>⟨_,he,hb,?_⟩
  exact RP.str r
def WU (P:Program) (f:FuncId):Prop:=∀(n:Int) (w:World),-9223372036854775808≤n→n≤9223372036854775807→(∀b,rq=some b→∃ty fr,w.heap[b]? = some (.cells mD ty fr))→Calls P f #[.int .i64 n] w fun e w'=>e=.returned (.string (B9 n))∧Below w.heap.size w w'
def QS (P:Program) (f:FuncId):Prop:=(∀(blk off cap:Nat) (zs:List Int) (w:World),Go.Sort.Holds (Value.int .i64) w blk off zs.toArray→zs.length≤9223372036854775807→zs.length≤cap →
 Calls P f #[.slice (some ⟨blk,off,none⟩) zs.length cap] w fun e w'=>e=.returned (.slice (some ⟨blk,off,none⟩) (Lib.compact zs).length cap)∧∃q,w'=Go.Sort.putRow (Value.int .i64) (Go.Sort.ahead w q) blk off (Lib.compact zs++List.replicate (zs.length-(Lib.compact zs).length) 0).toArray) ∧
 ∀(a:Option Addr) (cap:Nat) (w:World),Calls P f #[.slice a 0 cap] w fun e w'=>e=.returned (.slice a 0 cap)∧w'=w
theorem ED (d:Array Int):∀m:Nat,(Lib.compactUpTo d m).length≤m
 | 0=>by simp[Lib.compactUpTo]
 | m+1=>by
  rw[Lib.compactUpTo_succ,List.length_append]
  have:=ED d m
  split<;>simp<;>omega
theorem Be (l:List Int):(Lib.compact l).length≤l.length:=ED _ _
theorem LX {P:Program} {f:FuncId} {fn:Func} {ty:Nat} (hf:P.funcs[f]? = some fn) (hc:(fn.name == "runtime.NumGoroutine")=false∧fn.body.isNone=false) (hC:QS P f) :
  bN P f (VK ty (eI .i64) Ua (fun l (_:Unit)=>Oc l)) where
 callable:=⟨fn,hf,hc⟩
 calls lent ds rk out hg:=by
  obtain⟨pre,l,post,a,r,rfl,rfl,hr,rfl,rfl⟩:=Kv hg
  unfold Oc at hr
  split at hr
  rotate_left
  ·cases hr
  rename_i hlen
  cases hr
  intro w M go u0 vs hM hgoM hz hmp hrow hlv hargs
  have hvs:vs = #[]:=by
   have:=hargs.1
   simpa [Ua] using this
  subst hvs
  have hle:=Be l
  have hnil:Lib.compact ([]:List Int)=[]:=by
   have:=Be ([]:List Int)
   exact List.eq_nil_of_length_eq_zero (Nat.le_zero.1 this)
  rcases hlv.2 ⟨0,0,[],false,false,false⟩ rfl rfl with⟨g,o',c,N,t,k0,k1,k2,k3,k4,k5⟩|⟨k0,hn0,A,k1⟩
  ·cases k0
   subst k1
   obtain⟨cs,h1,h2,h3⟩:=hrow
   simp only[List.length_append,cl]at h2
   have hN:N=cs.size:=by
    simp only[World.shape?,h1,Option.some.injEq,Prod.mk.injEq]at k5
    exact k5.2.symm
   have hone:(eI IntKind.i64).size=1:=rfl
   by_cases hl:l=[]
   ·subst hl
    refine (hC.2 _ c w).mono fun e w' ⟨he,hw⟩ =>?_
    subst hw
    rw[hnil]
    refine⟨_,he,⟨rfl,rfl,rfl,Nat.le_refl _,fun k _ _=>rfl⟩,trivial,?_⟩
    by_cases hcc:0<c∨pre.length=0
    ·obtain⟨k6,k7⟩:=k2 hcc
     exact .inl ⟨(g.1,o'),c,cs,rfl,.inr ⟨g,rfl,rfl⟩,h1,Nat.zero_le _,k4,by rw[hone]at *;omega,by rw[hone]at *;simp[ab];omega,fun j d hj=>by simp[ab]at hj⟩
    ·have:c=0:=by omega
     subst this
     exact .inr ⟨rfl,rfl,_,rfl⟩
   ·have hpos:0<l.length:=List.length_pos_iff.2 hl
    obtain⟨k6,k7⟩:=k2 (.inl (by omega))
    subst k6
    have hcell:∀j,j<l.length→cs.getD (g.2+(pre.length+j)) undef=.int .i64 (l.getD j 0):=by
     intro j hj
     have hd:(pre++(ab (eI .i64) l++post))[pre.length+j]? = some (.int .i64 (l.getD j 0)):=by
      rw[List.getElem?_append_right (by omega),Nat.add_sub_cancel_left,List.getElem?_append_left (by rw[cl];exact hj),iQ]
      simp[List.getD,hj]
     obtain⟨_,hp⟩:=h3 _ _ hd
     exact QY hp
    have hH:Go.Sort.Holds (Value.int .i64) w g.1 (g.2+pre.length) l.toArray:=by
     intro j hj
     simp only[List.size_toArray]at hj
     refine⟨?_,by simp[World.frozen?,h1]⟩
     have:=bG h1 (j:=g.2+pre.length+j) (by omega)
     rw[this,Nat.add_assoc,hcell j hj]
     simp[List.getD,hj]
    refine (hC.1 g.1 (g.2+pre.length) c l w hH hlen k3).mono fun e w' ⟨he,q,hw⟩ =>?_
    subst hw
    have hdl:(Lib.compact l++List.replicate (l.length-(Lib.compact l).length) 0).length=l.length:=by simp;omega
    have hnew:(Go.Sort.putRow (Value.int .i64) (Go.Sort.ahead w q) g.1 (g.2+pre.length) (Lib.compact l++List.replicate (l.length-(Lib.compact l).length) 0).toArray).heap[g.1]? = some (.cells (Go.Sort.putCells (Value.int .i64) (g.2+pre.length) (Lib.compact l++List.replicate (l.length-(Lib.compact l).length) 0).toArray cs) ty (0,0)):=tB h1
    have hsz:(Go.Sort.putCells (Value.int .i64) (g.2+pre.length) (Lib.compact l++List.replicate (l.length-(Lib.compact l).length) 0).toArray cs).size=cs.size:=by simp[Go.Sort.putCells]
    refine⟨_,he,⟨rfl,rfl,rfl,by simp[Go.Sort.ahead],fun k hk hn =>?_⟩,trivial,.inl ⟨(g.1,g.2+pre.length),c,_,rfl,.inr ⟨g,rfl,rfl⟩,hnew,by omega,k4,?_,?_,fun j d hj =>?_⟩⟩
    ·exact kH fun e=>hn ⟨g,rfl,e⟩
    ·rw[hsz,hone];rw[hone]at k7;omega
    ·rw[hsz,cl];simp only;omega
    ·have hjl:=(List.getElem?_eq_some_iff.1 hj).1
     rw[cl]at hjl
     rw[iQ,Option.map_eq_some_iff]at hj
     obtain⟨z,hz,rfl⟩:=hj
     simp only
     rw[qS (by omega),hdl,if_pos (by omega)]
     have e1:g.2+pre.length+j-(g.2+pre.length)=j:=by omega
     have e2:(Lib.compact l++List.replicate (l.length-(Lib.compact l).length) 0).getD j 0=z:=by rw[List.getD_eq_getElem?_getD,List.getElem?_append_left hjl,hz];rfl
     rw[e1,e2]
     exact⟨rfl,.int _ _⟩
  ·subst k1
   have hl:l=[]:=List.eq_nil_of_length_eq_zero hn0
   subst hl
   refine (hC.2 _ 0 w).mono fun e w' ⟨he,hw⟩ =>?_
   subst hw
   rw[hnil]
   exact⟨_,he,⟨rfl,rfl,rfl,Nat.le_refl _,fun k _ _=>rfl⟩,trivial,.inr ⟨rfl,rfl,_,rfl⟩⟩
theorem im (b:Nat) {ty:Nat} {fr:Nat×Nat} : ∀(vs:List Value) (o:Nat) (w:World) (arr:Array Value),w.heap[b]? = some (.cells arr ty fr)→o+vs.length≤arr.size →
  (w.setCells b o vs).os=w.os∧(w.setCells b o vs).tape=w.tape∧(w.setCells b o vs).output=w.output∧(w.setCells b o vs).heap.size=w.heap.size∧(∀k,k≠b→(w.setCells b o vs).heap[k]? = w.heap[k]?) ∧
  ∃arr',(w.setCells b o vs).heap[b]? = some (.cells arr' ty fr)∧arr'.size=arr.size∧∀j,arr'[j]? = if o≤j∧j<o+vs.length then vs[j-o]? else arr[j]?
 | [],o,w,arr,h,_=>⟨rfl,rfl,rfl,rfl,fun k _=>rfl,arr,h,rfl,fun j=>by rw[if_neg (by simp)]⟩
 | v::r,o,w,arr,h,hl=>by
  simp only[List.length_cons]at hl
  have h1:(w.setCell ⟨b,o,none⟩ v).heap[b]? = some (.cells (arr.setIfInBounds o v) ty fr):=by
   simp[World.setCell,Array.getElem?_modify,h]
  obtain⟨e1,e2,e3,e4,e5,arr',e6,e7,e8⟩:=im b r (o+1) (w.setCell ⟨b,o,none⟩ v) _ h1 (by simp;omega)
  refine⟨e1,e2,e3,e4.trans (by simp[World.setCell]),fun k hk=>(e5 k hk).trans (by simp[World.setCell,Array.getElem?_modify,Ne.symm hk]),arr',e6,by simpa using e7,fun j =>?_⟩
  rw[e8 j,Array.getElem?_setIfInBounds]
  simp only[List.length_cons]
  by_cases h1:o+1≤j∧j<o+1+r.length
  ·rw[if_pos h1,if_pos (by omega)]
   have:j-o=(j-(o+1))+1:=by omega
   rw[this,List.getElem?_cons_succ]
  ·rw[if_neg h1]
   by_cases h2:o=j
   ·subst h2
    rw[if_pos rfl,if_pos (by omega),if_pos (by omega),Nat.sub_self]
    rfl
   ·rw[if_neg h2,if_neg (by omega)]
open Go.Shelf in
theorem PY {P:Program} {ρ:Ren} (L:Lays2.n21 P ρ) {fn:Func} (hf:P.funcs[ρ.f 21]? = some fn) (hc:(fn.name == "runtime.NumGoroutine")=false∧fn.body.isNone=false):QU P (ρ.f 21) (ρ.t 3,1,8) where
 callable:=⟨fn,hf,hc⟩
 pos:=Nat.one_pos
 calls w go go' u u' i n m cs cs' h1 h2 hne hl hl' ho ho' hi hm hmax:=by
  simp only[Nat.mul_one]at *
  obtain⟨g',c',arr',rfl,rfl,b1,b2,b3,b4,b5⟩:∃g c arr,go'=some g∧u'=.slice (some ⟨g.1,g.2,none⟩) m c∧w.heap[g.1]? = some (.cells arr (ρ.t 3) (0,0))∧c*1+g.2=arr.size∧m≤c∧c≤maxLen∧∀(j:Nat) x,cs'[j]? = some x→arr[g.2+j]? = some x:=by
   rcases h2 with⟨g,c,arr,k⟩|⟨_,rfl,_⟩
   ·exact⟨g,c,arr,by simpa using k⟩
   ·omega
  have hvs:∀(j:Nat) v,cs'[j]? = some v→w.cell? ⟨g'.1,g'.2+j,none⟩=some v:=fun j v hj=>by simp[World.cell?,b1,b5 j v hj]
  rcases h1 with⟨g,c,arr,rfl,rfl,a1,a2,a3,a4,a5⟩|⟨rfl,rfl,rfl,A,rfl⟩
  ·have hcs:∀(j:Nat) v,cs[j]? = some v→w.cell? ⟨g.1,g.2+j,none⟩=some v:=fun j v hj=>by simp[World.cell?,a1,a5 j v hj]
   have hfz:∀j,w.frozen? ⟨g.1,j,none⟩=false:=fun j=>by simp[World.frozen?,a1]
   have hbb:g.1≠g'.1:=hne g g' rfl rfl
   have hlt:g.1<w.heap.size:=(Array.getElem?_eq_some_iff.1 a1).1
   have hsp:∀j,j<n+m→n+m≤c→(w.cell? ⟨g.1,g.2+j,none⟩).isSome=true:=fun j hj hr=>by
    simp only[World.cell?,a1]
    rw[Array.getElem?_eq_getElem (by omega)]
    rfl
   by_cases hin:i=n
   ·subst hin
    have ht:cs.take i=cs:=List.take_of_length_le (by omega)
    have hd:cs.drop i=[]:=List.drop_eq_nil_of_le (by omega)
    rw[ht,hd,List.append_nil]
    by_cases hroom:i+m≤c
    ·refine (Any2.slices_Insert_int_end_room L g.1 g.2 i c g'.1 g'.2 m c' cs' w hm hroom (by unfold maxLen at a4;omega) hl' (fun j hj=>by have:=hsp (i+j) (by omega) hroom;rwa [← Nat.add_assoc]at this) (fun j _=>hfz _) hvs ho').mono fun e w' ⟨he,hw⟩ =>?_
     subst hw
     obtain⟨e1,e2,e3,e4,e5,arr2,e6,e7,e8⟩:=im g.1 cs' (g.2+i) w arr a1 (by omega)
     refine⟨_,he,⟨e1,e2,e3,by omega,fun k hk hn=>e5 k (fun h=>hn ⟨g,rfl,h⟩)⟩,g,c,arr2,rfl,.inr ⟨g,rfl,rfl⟩,e6,hroom,a4,by omega,fun j x hj =>?_⟩
     rw[e8]
     by_cases hj2:j<i
     ·rw[if_neg (by omega)]
      rw[List.getElem?_append_left (by omega)]at hj
      exact a5 j x hj
     ·have hjl:=(List.getElem?_eq_some_iff.1 hj).1
      rw[List.length_append]at hjl
      rw[List.getElem?_append_right (by omega)]at hj
      rw[if_pos (by omega)]
      rw[← hj];congr 1;omega
    ·refine (Any2.slices_Insert_int_end_grow L (some ⟨g.1,g.2,none⟩) i c g'.1 g'.2 m c' cs cs' w hm a3 (by omega) hmax hl hl' (fun h=>by cases h) (fun a ha j v hj=>by cases ha;rw[Addr.add_lit];exact hcs j v hj) hvs ho').mono fun e w' ⟨he,hw⟩ =>?_
     subst hw
     have hge:=grownCap_ge w (i+m) c (ρ.t 3)
     refine⟨_,he,cr.pO ((Below.refl _ w).drew.alloc (by simp) _),(w.heap.size,0),_,_,rfl,.inl (Nat.le_refl _),heap_alloc_new w.drew _,hge,grownCap_le_maxLen _ _ _ _ (by unfold maxLen;omega),?_,fun j x hj =>?_⟩
     ·simp[Builtin.zeroCells,Value.cells];omega
     ·have hjl:=(List.getElem?_eq_some_iff.1 hj).1
      rw[Nat.zero_add,Array.getElem?_append_left (by simpa using hjl)]
      simpa using hj
   ·have hin':i<n:=by omega
    by_cases hroom:n+m≤c
    ·refine (Any2.slices_Insert_int_shift L g.1 g.2 n c i g'.1 g'.2 m c' cs cs' w hin' hm hroom (by unfold maxLen at a4;omega) (Ne.symm hbb) hl hl' hcs (fun j hj=>hsp j hj hroom) (fun j _=>hfz _) hvs ho ho' (ρ.t 3) (ρ.t 3) arr'.size arr.size (by simp[World.shape?,b1]) (by simp[World.shape?,a1]) (by omega) (by simp[World.frozen?,b1]) (by simp[World.frozen?,b1])).mono fun e w' ⟨he,hw⟩ =>?_
     subst hw
     obtain⟨e1,e2,e3,e4,e5,arr2,e6,e7,e8⟩:=im g.1 (cs.drop i) (g.2+(i+m)) w.drew arr a1 (by simp;omega)
     obtain⟨f1,f2,f3,f4,f5,arr3,f6,f7,f8⟩:=im g.1 cs' (g.2+i) _ arr2 e6 (by omega)
     refine⟨_,he,⟨f1.trans e1,f2.trans e2,f3.trans e3,by rw[f4,e4];exact Nat.le_refl _,fun k hk hn=>(f5 k (fun h=>hn ⟨g,rfl,h⟩)).trans (e5 k (fun h=>hn ⟨g,rfl,h⟩))⟩,g,c,arr3,rfl,.inr ⟨g,rfl,rfl⟩,f6,hroom,a4,by omega,fun j x hj =>?_⟩
     have hjl:=(List.getElem?_eq_some_iff.1 hj).1
     simp only[List.length_append,List.length_take,List.length_drop]at hjl
     rw[f8,e8]
     by_cases hj1:j<i
     ·rw[List.getElem?_append_left (by rw[List.length_take];omega),List.getElem?_take,if_pos hj1]at hj
      rw[if_neg (by omega),if_neg (by simp;omega)]
      exact a5 j x hj
     ·rw[List.getElem?_append_right (by rw[List.length_take];omega),List.length_take,Nat.min_eq_left (by omega)]at hj
      by_cases hj2:j<i+m
      ·rw[List.getElem?_append_left (by omega)]at hj
       rw[if_pos (by omega),← hj];congr 1;omega
      ·rw[List.getElem?_append_right (by omega)]at hj
       rw[if_neg (by omega),if_pos (by simp;omega),← hj];congr 1;omega
    ·refine (Any2.slices_Insert_int_grow L g.1 g.2 n c i g'.1 g'.2 m c' cs cs' w hin' hm a3 (by omega) hmax hl hl' hcs hvs ho ho').mono fun e w' ⟨he,hw⟩ =>?_
     subst hw
     have hge:=grownCap_ge w (n+m) c (ρ.t 3)
     generalize hG:grownCap w (n+m) c (ρ.t 3)=G at *
     generalize hR:((cs.take i).toArray++Builtin.zeroCells (Value.int .i64 0).cells (n+m-i)++Builtin.zeroCells (Value.int .i64 0).cells (G-(n+m)))=R
     have hRs:R.size=G:=by subst hR;simp[Builtin.zeroCells,Value.cells];omega
     have hR0:∀j,j<i→R[j]? = cs[j]?:=fun j hj=>by
      subst hR
      rw[Array.append_assoc,Array.getElem?_append_left (by simp;omega)]
      simp[List.getElem?_take,hj]
     have hw0:(w.alloc (.cells R (ρ.t 3))).drew.heap[w.heap.size]? = some (.cells R (ρ.t 3) (0,0)):=heap_alloc_new w _
     obtain⟨e1,e2,e3,e4,e5,arr2,e6,e7,e8⟩:=im w.heap.size cs' i _ R hw0 (by omega)
     obtain⟨f1,f2,f3,f4,f5,arr3,f6,f7,f8⟩:=im w.heap.size (cs.drop i) (i+m) (((w.alloc (.cells R (ρ.t 3))).drew.setCells w.heap.size i cs').drew) arr2 e6 (by simp;omega)
     refine⟨_,he,⟨f1.trans e1,f2.trans e2,f3.trans e3,?_,fun k hk hn =>?_⟩,(w.heap.size,0),G,arr3,rfl,.inl (Nat.le_refl _),f6,hge,hG ▸ grownCap_le_maxLen _ _ _ _ (by unfold maxLen;omega),by simp only;omega,fun j x hj =>?_⟩
     ·rw[f4]
      show _≤((w.alloc (.cells R (ρ.t 3))).drew.setCells w.heap.size i cs').heap.size
      rw[e4]
      show _≤(w.alloc (.cells R (ρ.t 3))).heap.size
      simp
     ·rw[f5 k (by omega)]
      show ((w.alloc (.cells R (ρ.t 3))).drew.setCells w.heap.size i cs').heap[k]? = _
      rw[e5 k (by omega)]
      exact Below.heap_alloc w _ k hk
     ·have hjl:=(List.getElem?_eq_some_iff.1 hj).1
      simp only[List.length_append,List.length_take,List.length_drop]at hjl
      rw[Nat.zero_add,f8,e8]
      by_cases hj1:j<i
      ·rw[List.getElem?_append_left (by rw[List.length_take];omega),List.getElem?_take,if_pos hj1]at hj
       rw[if_neg (by omega),if_neg (by omega),hR0 j hj1,hj]
      ·rw[List.getElem?_append_right (by rw[List.length_take];omega),List.length_take,Nat.min_eq_left (by omega)]at hj
       by_cases hj2:j<i+m
       ·rw[List.getElem?_append_left (by omega)]at hj
        rw[if_neg (by omega),if_pos (by omega),← hj]
       ·rw[List.getElem?_append_right (by omega)]at hj
        rw[if_pos (by simp;omega),← hj];congr 1;omega
  ·have hi0:i=0:=by omega
   subst hi0
   refine (Any2.slices_Insert_int_end_grow L A 0 0 g'.1 g'.2 m c' [] cs' w hm (Nat.le_refl _) (by omega) (by omega) rfl hl' (fun _=>rfl) (fun a ha j v hj=>by simp at hj) hvs ho').mono fun e w' ⟨he,hw⟩ =>?_
   subst hw
   have hge:=grownCap_ge w (0+m) 0 (ρ.t 3)
   refine⟨_,he,cr.pO ((Below.refl _ w).drew.alloc (by simp) _),(w.heap.size,0),_,_,rfl,.inl (Nat.le_refl _),heap_alloc_new w.drew _,hge,grownCap_le_maxLen _ _ _ _ (by unfold maxLen;omega),?_,fun j x hj =>?_⟩
   ·have hge':=hge
    simp only[Nat.zero_add]at hge'
    simp[Builtin.zeroCells,Value.cells];omega
   ·simp only[List.take_nil,List.drop_nil,List.nil_append,List.append_nil]at hj
    have hjl:=(List.getElem?_eq_some_iff.1 hj).1
    rw[Nat.zero_add,Array.getElem?_append_left (by simpa using hjl)]
    simpa using hj
end Go.Proofs.YtpkahnkoecbndaaGreatDoor.Am
namespace Go.Proofs.YtpkahnkoecbndaaGreatDoor.Am
open Go.RowKit Go.Shelf Go.Proofs.YtpkahnkoecbndaaGreatDoor.P
set_option linter.unusedSimpArgs false
set_option linter.unusedVariables false
attribute [local go_sem] Oper.semAt_some
def upto (f:Nat→Int) (k:Nat):List Int:=(List.range k).map f
theorem Gm (f:Nat→Int) (k:Nat):upto f (k+1)=upto f k++[f k]:=by simp[upto,List.range_succ]
theorem Lt (f:Nat→Int) (k:Nat):(upto f k).length=k:=by simp[upto]
theorem TY (zs:List Int):upto (fun j=>zs[j]?.getD 0) zs.length=zs:=by
 apply List.ext_getElem
 ·simp[upto]
 ·intro i h1 h2
  simp[upto,h2]
theorem QJ (zs:List Int) {k:Nat} (hk:k≤zs.length):upto (fun j=>zs[j]?.getD 0) k=zs.take k:=by
 apply List.ext_getElem
 ·simp[upto,hk]
 ·intro i h1 h2
  have:i<zs.length:=by simp[upto]at h1;omega
  simp[upto,this]
set_option maxRecDepth 100000 in
set_option maxHeartbeats 2000000 in
theorem Ns (F:Fence) (n:Nat) (h7:F.fn 156) (hro:F.round=none) (hn:1≤n) (l Bs Bo n₀ b off len cap:Nat) (zs:List Int) (hreach:len*8≤140737488351232) (hb:b<n₀) (J Jx:List Int→World→Prop)
  (hY:∀pre x W,J pre W→pre.length<len→YieldAt F (n-1) Tryz.prog l #[.int .i64 x] W fun e W' =>
   (e=.returned (.bool true)∧J (pre++[x]) W'∧Below n₀ W W')∨(e=.returned (.bool false)∧Jx (pre++[x]) W'))
  (W:World) (hBs:W.cell? ⟨Bs,Bo,none⟩=some (.slice (some ⟨b,off,none⟩) len cap)) (hc:∀j,j<len→W.cell? ⟨b,off+j,none⟩=some (.int .i64 (zs[j]?.getD 0))) (h0:J [] W) :
  CallsIn F n Tryz.prog 156 #[.func (.yield l) #[] #[],.pointer (some ⟨Bs,Bo,none⟩)] W fun e W'=>(∃v,e=.returned v) ∧
   ((∃ys,ys=upto (fun j=>zs[j]?.getD 0) len∧J ys W')∨(∃pre,(∃k,k≤len∧pre=upto (fun j=>zs[j]?.getD 0) k)∧Jx pre W')):=by
 refine callsIn_of_wp Tryz.func156 rfl h7 ?_ hro
 simp only[Tryz.ntmps156,List.size_toArray,List.length_cons,List.length_nil,Nat.reduceAdd,Nat.reduceSub,Array.replicate_succ,Array.replicate_zero,List.push_toArray,List.append_toArray,List.nil_append,List.cons_append]
 gi_wp2
 gi_loopw [7] (fun i wr=>∃k:Nat,k≤len∧i=.int .i64 k∧J (upto (fun j=>zs[j]?.getD 0) k) wr∧Below n₀ W wr)
  (fun i _=>len-(intOf i).toNat)
 case atStart=>exact⟨0,Nat.zero_le _,rfl,h0,Below.refl _ _⟩
 case round =>
  obtain⟨k,hk,rfl,hJs,hnx⟩:=hrel
  have hcx:k<len→wr.cell? ⟨b,off+k,none⟩=some (.int .i64 (zs[k]?.getD 0)):=fun h=>(hnx.cell (p:=⟨b,off+k,none⟩) hb).trans (hc k h)
  by_cases hlt:k<len
  ·obtain⟨fn,tmps,assign,body,hy,hR⟩:=hY _ (zs[k]?.getD 0) wr hJs (by rw[Lt];exact hlt)
   have hcx':=hcx hlt
   gi_wp2
   refine hR.mono ?_
   rintro e W3 (⟨rfl,hJ3,hk3⟩|⟨rfl,hJx3⟩)
   ·gi_wp2
    go_roundw
    case rel=>exact⟨k+1,by omega,by simp,by rw[Gm];exact hJ3,hnx.trans hk3⟩
    case measure=>simp[intOf];omega
   ·gi_wp2
    refine bodyPost_ret (results_none rfl _ _ _) rfl ?_
    exact⟨⟨_,rfl⟩,.inr ⟨_,⟨k+1,by omega,(Gm _ _).symm⟩,hJx3⟩⟩
  ·obtain rfl:k=len:=by omega
   gi_wp2
   go_end0
   exact⟨⟨_,rfl⟩,.inl ⟨_,rfl,hJs⟩⟩
set_option maxRecDepth 100000 in
set_option maxHeartbeats 1000000 in
theorem Db (F:Fence) (n:Nat) (h7:F.fn 156) (hro:F.round=none) (l Bs Bo cap:Nat) (A:Option Addr) (J:List Int→World→Prop) (W:World) (hBs:W.cell? ⟨Bs,Bo,none⟩=some (.slice A 0 cap)) (h0:J [] W) :
  CallsIn F n Tryz.prog 156 #[.func (.yield l) #[] #[],.pointer (some ⟨Bs,Bo,none⟩)] W fun e W'=>(∃v,e=.returned v)∧J [] W':=by
 refine callsIn_of_wp Tryz.func156 rfl h7 ?_ hro
 simp only[Tryz.ntmps156,List.size_toArray,List.length_cons,List.length_nil,Nat.reduceAdd,Nat.reduceSub,Array.replicate_succ,Array.replicate_zero,List.push_toArray,List.append_toArray,List.nil_append,List.cons_append]
 gi_wp2
 gi_loopw [7] (fun i wr=>i=.int .i64 0∧J [] wr) (fun _ _=>0)
 case atStart=>exact⟨rfl,h0⟩
 case round =>
  obtain⟨rfl,hJs⟩:=hrel
  gi_wp2
  go_end0
  exact⟨⟨_,rfl⟩,hJs⟩
def Ints (n₀:Nat) (W:World) (sv:Value) (zs:List Int):Prop :=
 (∃A c,sv=.slice A 0 c∧zs=[])∨∃b off cap,sv=.slice (some ⟨b,off,none⟩) zs.length cap∧b<n₀∧∀j,j<zs.length→W.cell? ⟨b,off+j,none⟩=some (.int .i64 (zs[j]?.getD 0))
theorem Ints.below {n₀:Nat} {A B:World} (h:Below n₀ A B) {sv:Value} {zs:List Int} : Ints n₀ A sv zs→Ints n₀ B sv zs
 | .inl e =>.inl e
 | .inr ⟨b,off,cap,e,hb,hc⟩ =>.inr ⟨b,off,cap,e,hb,fun j hj=>(h.cell (p:=⟨b,off+j,none⟩) hb).trans (hc j hj)⟩
theorem HW (F:Fence) (n:Nat) (h7:F.fn 156) (hro:F.round=none) (hn:1≤n) (Bs Bo n₀:Nat) (sv:Value) (zs:List Int) (hreach:zs.length*8≤140737488351232) (w:World) (hBs:Bs<w.heap.size) (hn₀:n₀≤w.heap.size)
  (hc:w.cell? ⟨Bs,Bo,none⟩=some sv) (hI:Ints n₀ w sv zs) :
  SeqStopsK F n Tryz.prog 156 #[.pointer (some ⟨Bs,Bo,none⟩)] (fun x:Int=>#[Value.int .i64 x]) (Below n₀) (fun ys=>ys=zs) (fun pre=>pre <+: zs) zs.length w:=fun l J Jx W hW _ _ hY h0=>by
 have hc':=(hW.cell (p:=⟨Bs,Bo,none⟩) hBs).trans hc
 rcases hI.below (hW.mono hn₀) with⟨A,c,rfl,rfl⟩|⟨b,off,cap,rfl,hb,hcs⟩
 ·exact (Db F n h7 hro l Bs Bo _ _ J W hc' h0).mono fun e W' ⟨he,hj⟩=>⟨he,.inl ⟨_,rfl,hj⟩⟩
 ·refine (Ns F n h7 hro hn l Bs Bo n₀ b off zs.length cap zs hreach hb J Jx hY W hc' hcs h0).mono ?_
  rintro e W' ⟨he,⟨ys,rfl,hj⟩|⟨pre,⟨k,hk,rfl⟩,hj⟩⟩
  ·exact⟨he,.inl ⟨_,TY zs,hj⟩⟩
  ·exact⟨he,.inr ⟨_,by rw[QJ zs hk];exact List.take_prefix _ _,hj⟩⟩
theorem Xd:(Tryz.prog.info? 3).map (fun i=>(i.zero,i.size,i.bytes))=some (some (.int .i64 0),1,8):=by kernel_rfl
set_option maxRecDepth 100000 in
set_option maxHeartbeats 2000000 in
theorem appendSeq_in (F:Fence) (n:Nat) (h3:F.fn 176) (h7:F.fn 156) (hro:F.round=none) (hn:3≤n) (Bs Bo:Nat) (sv:Value) (zs:List Int) (hreach:zs.length*8≤140737488351232) (w:World)
  (hBs:Bs<w.heap.size) (hc:w.cell? ⟨Bs,Bo,none⟩=some sv) (hI:Ints w.heap.size w sv zs) :
  CallsIn F n Tryz.prog 176 #[.slice none 0 0,.func (.func 156) #[] #[.pointer (some ⟨Bs,Bo,none⟩)]] w fun e W'=>∃v,e=.returned v∧W'.ownsRow w.heap.size 3 1 v zs.length (zs.map (Value.int .i64))∧(v=.slice none 0 0↔zs=[])∧Below w.heap.size w W':=by
 have h1:1≤n:=by omega
 obtain⟨i0,hi,hz0,hz1,hz2⟩:=info_parts Xd
 refine callsIn_of_wp_marks Tryz.func176 rfl h3 ?_ hro
 simp only[Tryz.ntmps176,List.size_toArray,List.length_cons,List.length_nil,Nat.reduceAdd,Nat.reduceSub,Array.replicate_succ,Array.replicate_zero,List.push_toArray,List.append_toArray,List.nil_append,List.cons_append]
 gi_wp2
 have bO:=Boxed.new w 25 (.slice none 0 0)
 have hB0:Below w.heap.size w (w.alloc (.cells #[.slice none 0 0] 25)):=(Below.refl _ w).alloc (Nat.le_refl _) _
 refine wpIn_rangeFunc_ownG hro h1 (gf:=156) (lb:=#[.pointer (some ⟨Bs,Bo,none⟩)]) rfl h7 (enters_of Tryz.func156 (by kernel_rfl) rfl)
  (HW F (n-1) h7 hro (by omega) Bs Bo w.heap.size sv zs hreach _ (by simp;omega) (by simp) ((hB0.cell (p:=⟨Bs,Bo,none⟩) hBs).trans hc) (hI.below hB0)) belowK_t (belowK_b (by simp)) (Below.refl _ _) (fun _=>rfl)
  (fun pre W=>(∃v,Boxed W w.heap.size 25 v∧W.ownsRow w.heap.size 3 1 v pre.length (pre.map (Value.int .i64))∧(v=.slice none 0 0↔pre=[]))∧Below w.heap.size w W)
  (fun _ _ _=>False)
  (OwnFrom.and (Own.from (holdsRow_own w.heap.size w.heap.size 25 3 1 (fun pre=>pre.length) (fun pre=>pre.map (Value.int .i64)) (fun pre v=>v=.slice none 0 0↔pre=[])) _) (ownFrom_below (Nat.le_refl _) (by simp)))
  (fun _ _ _ _ _ hs _ _=>hs)
  ⟨⟨_,bO,World.ownsRow_nil _ _ _ _,by simp⟩,hB0⟩
  (fun x=>{ tmps:=#[.slice none 0 0,.func (.func 156) #[] #[.pointer (some ⟨Bs,Bo,none⟩)],.pointer (some ⟨w.heap.size,0,none⟩),undef,.slice none 0 0,.int .i64 x,.func (.func 156) #[] #[.pointer (some ⟨Bs,Bo,none⟩)],.int .i64 x,undef,undef,undef,undef,undef],defers:=[] }) ?assign ?body ?done ?stop
 case assign =>
  intro l x W K hK
  gi_wp2
  exact hK
 case body =>
  rintro l pre x W ⟨⟨v,hv,hrow,hnil⟩,hB⟩ hlt
  have hc:=hv.cell
  gi_wp2_with (gi_at_builtin;refine wpListIn_append_own _ rfl _ _ 25 rfl w.heap.size 3 i0 (.int .i64 0) 1 8 Tryz.underlying25 hi hz0 hz1 hz2 rfl (by decide) _ _ _ rfl (hrow.alloc _) ⟨W.heap.size,0,none⟩ 1 1 [.int .i64 x] rfl rfl (cell_one_new _ _ _) (by simp[Value.oneCell']) (by unfold maxLen;omega) (by omega) (by have:=hB.size;simp;omega) ?_;intro v' w1 hown' hgrow _;obtain⟨g',cap',rfl⟩:=ownsRow_succ hown';obtain⟨hv1,hv2,hr2,hk2,hb2⟩:=hv.appended (by decide) hrow hB.size (Nat.le_refl _) hown' hgrow;have hc1:=hv1.cell;have hf1:=hv1.frozen)
  exact⟨hk2.from _,hb2,⟨_,hv2,by simpa using hr2,by simp⟩,hB.trans hb2⟩
 case done =>
  rintro D ys W hD rfl ⟨⟨v,hv,hrow,hnil⟩,hB⟩ hK
  have hc:=hv.cell
  gi_wp2
  refine⟨by simp,.inl ⟨_,_,rfl,run_takeDeferred hK,?_⟩⟩
  exact⟨_,results_tmp rfl _ _ _,v,rfl,ownsRow_putObj hrow _ hK rfl,hnil,hB.trans (belowK_b (w:=w) (Nat.le_refl _) W D _ _ (by simp at hD;omega) hK rfl rfl)⟩
 case stop =>
  rintro D c pre W _ _ h _
  exact h.elim
set_option maxHeartbeats 1000000 in
theorem collect_in (F:Fence) (n:Nat) (h2:F.fn 155) (h3:F.fn 176) (h7:F.fn 156) (hro:F.round=none) (hn:4≤n) (Bs Bo:Nat) (sv:Value) (zs:List Int) (hreach:zs.length*8≤140737488351232) (w:World)
  (hBs:Bs<w.heap.size) (hc:w.cell? ⟨Bs,Bo,none⟩=some sv) (hI:Ints w.heap.size w sv zs) :
  CallsIn F n Tryz.prog 155 #[.func (.func 156) #[] #[.pointer (some ⟨Bs,Bo,none⟩)]] w fun e W'=>∃v,e=.returned v∧W'.ownsRow w.heap.size 3 1 v zs.length (zs.map (Value.int .i64))∧(v=.slice none 0 0↔zs=[])∧Below w.heap.size w W':=by
 have h1:1≤n:=by omega
 refine callsIn_of_wp Tryz.func155 rfl h2 ?_ hro
 simp only[Tryz.ntmps155,List.size_toArray,List.length_cons,List.length_nil,Nat.reduceAdd,Nat.reduceSub,Array.replicate_succ,Array.replicate_zero,List.push_toArray,List.append_toArray,List.nil_append,List.cons_append]
 gi_wp2_with (gi_at_call 176;refine (appendSeq_in F (n-1) h3 h7 hro (by omega) Bs Bo sv zs hreach _ hBs hc hI).mono ?_;rintro e w' ⟨v,rfl,hrow,hnil,hb⟩)
 go_ret
 exact⟨v,rfl,hrow,hnil,hb⟩
theorem U8 (a:Option Addr) (len cap:Nat) (w:World) :
  Calls Tryz.prog 116 #[.slice a len cap] w fun e w'=>e=.returned (.func (.func 156) #[] #[.pointer (some ⟨w.heap.size,0,none⟩)])∧w'=w.alloc (.cells #[.slice a len cap] 25):=by
 go_enter Tryz.func116,Tryz.ntmps116
 go_wp2
 go_ret
 exact⟨rfl,rfl⟩
set_option maxHeartbeats 1000000 in
theorem U0 (Bs Bo:Nat) (sv:Value) (zs:List Int) (hreach:zs.length*8≤140737488351232) (w:World) (hBs:Bs<w.heap.size) (hc:w.cell? ⟨Bs,Bo,none⟩=some sv) (hI:Ints w.heap.size w sv zs) :
  Calls Tryz.prog 115 #[.func (.func 156) #[] #[.pointer (some ⟨Bs,Bo,none⟩)]] w fun e w'=>∃v,e=.returned v∧Below w.heap.size w w' ∧
   ((zs=[]∧v=.slice none 0 0)∨∃g cap cs,v=.slice (some ⟨g,0,none⟩) zs.length cap∧w.heap.size≤g∧w'.heap[g]? = some (.cells cs 3 (0,0))∧zs.length≤cap∧cap≤maxLen∧cs.size=cap∧∀j,j<zs.length→cs.getD j undef=.int .i64 ((fU zs).getD j 0)):=by
 refine (callsIn_wide (n:=6)).1 ?_
 have hN:(1:Nat)≤6:=by omega
 have cC:=collect_in Fence.wide 5 trivial trivial trivial rfl (by omega) Bs Bo sv zs hreach w hBs hc hI
 refine callsIn_of_wp Tryz.func115 rfl trivial ?_ rfl
 simp only[Tryz.ntmps115,List.size_toArray,List.length_cons,List.length_nil,Nat.reduceAdd,Nat.reduceSub,Array.replicate_succ,Array.replicate_zero,List.push_toArray,List.append_toArray,List.nil_append,List.cons_append]
 have hf1:Fence.wide.fn 155:=trivial
 have hf2:Fence.wide.fn 69:=trivial
 have cS:Q0 Tryz.prog 69:=fun blk off cap zs w hH hb hl=>Any.slices_Sort_int Tryz.G3 blk off cap zs w hH hb hl
 by_cases hz:zs=[]
 ·subst hz
  gi_wp2_with (first
   | (gi_at_call 155;refine cC.mono ?_;clear cC;rintro e w' ⟨v,rfl,hrow,hnil,hb⟩;obtain rfl:v=.slice none 0 0:=hnil.2 rfl)
   | (gi_at_call 69;refine (callsIn_wide.2 (Any.slices_Sort_int_none Tryz.G3 _ _ _)).mono ?_;rintro e2 w2 ⟨rfl,rfl⟩))
  go_ret
  first|exact⟨_,rfl,hb,.inl rfl⟩|exact⟨_,rfl,hb,.inl ⟨rfl,rfl⟩⟩
 ·gi_wp2_with (gi_at_call 155;refine cC.mono ?_;clear cC;rintro e w' ⟨v,rfl,hrow,hnil,hb⟩;obtain⟨g,cap,cur,rfl,k1,k2,k3,k4,k5,k6⟩:∃g cap cur,v=.slice (some ⟨g,0,none⟩) zs.length cap∧w.heap.size≤g∧w'.heap[g]? = some (.cells cur 3 (0,0))∧zs.length≤cap∧cap≤maxLen∧cur.size=cap*1∧cur.toList.take (zs.length*1)=zs.map (Value.int .i64):=hrow.2.resolve_left (fun hv=>hz (hnil.1 hv.1)))
  rw[Nat.mul_one]at k5 k6
  have hcur:∀j,j<zs.length→cur[j]? = some (.int .i64 (zs.getD j 0)):=by
   intro j hj
   have:(cur.toList.take zs.length)[j]? = (zs.map (Value.int .i64))[j]?:=by rw[k6]
   rw[List.getElem?_take,if_pos hj,List.getElem?_map,Array.getElem?_toList]at this
   rw[this]
   simp[List.getD,hj]
  have hH:Go.Sort.Holds (Value.int .i64) w' g 0 zs.toArray:=by
   intro j hj
   simp only[List.size_toArray]at hj
   refine⟨?_,by simp[World.frozen?,k2]⟩
   simp only[World.cell?,k2,Nat.zero_add]
   rw[hcur j hj]
   simp[List.getD,hj]
  have hlt:g<w'.heap.size:=(Array.getElem?_eq_some_iff.1 k2).1
  gi_wp2_with (gi_at_call 69;refine (callsIn_wide.2 (cS g 0 cap zs w' hH hlt (by omega))).mono ?_;rintro e2 w2 ⟨rfl,q,os,rfl⟩)
  go_ret
  refine⟨_,rfl,?_,.inr ⟨g,cap,Go.Sort.putCells (Value.int .i64) 0 (fU zs).toArray cur,rfl,k1,?_,k3,k4,?_,fun j hj =>?_⟩⟩
  ·refine⟨hb.os,hb.tape,hb.output,Nat.le_trans hb.size (by simp[Go.Sort.grow,Go.Sort.ahead]),fun k hk =>?_⟩
   have hk':k<w'.heap.size:=Nat.lt_of_lt_of_le hk hb.size
   rw[Go.Sort.heap_grow_old _ _ (by simpa [Go.Sort.ahead] using hk'),kH (by omega)]
   exact hb.block k hk
  ·rw[Go.Sort.heap_grow_old _ _ (by simpa [Go.Sort.ahead] using hlt)]
   exact tB k2
  ·simp[Go.Sort.putCells,k5]
  ·rw[qS (by omega),if_pos (by rw[fm];omega),Nat.sub_zero]
theorem QK:bN Tryz.prog 116 (eB (dK (iG (eI .i64))) AB (fun r =>.clean (.clo 156 0 [.ip [.sl false false r.length (ab (eI .i64) r)]]))) where
 callable:=⟨_,Tryz.func116,by kernel_rfl,by kernel_rfl⟩
 calls lent ds rk out hg:=by
  obtain⟨rfl,rfl,l,r,rfl,hr,rfl⟩:=pK hg
  cases hr
  intro w M vs hM hargs
  have hsz:vs.size=1:=hargs.size
  rw[Nu hsz]
  have hu:=hargs.at_ 0 _ rfl
  generalize vs.getD 0 undef=u at *
  have hu':RP w M (.sl false false l.length (ab (eI .i64) l)) u:=hu
  obtain⟨A,c,rfl,-⟩:=Gr hu'
  refine (U8 A l.length c w).mono fun e w' ⟨he,hw⟩ =>?_
  subst hw
  have hb:Below w.heap.size w (w.alloc (.cells #[.slice A l.length c] 25)):=(Below.refl _ w).alloc (Nat.le_refl _) _
  have hk:∀b,b<w.heap.size→¬M b→b<(w.alloc (.cells #[.slice A l.length c] 25)).heap.size∧¬M b∧(w.alloc (.cells #[.slice A l.length c] 25)).heap[b]? = w.heap[b]?:=fun b h1 h2=>⟨by simp;omega,h2,hb.block b h1⟩
  refine⟨_,he,hb,RP.clo _ 0 _ [.pointer (some ⟨w.heap.size,0,none⟩)] rfl fun j x hj =>?_⟩
  cases j with
  | succ j=>simp at hj
  | zero =>
   simp only[List.getElem?_cons_zero,Option.some.injEq]at hj
   subst hj
   refine RP.ip _ ⟨w.heap.size,0,none⟩ (fun _ =>.slice A l.length c) (fun _=>⟨w.heap.size,0,rfl,by simp,fun h=>by have:=hM _ h;omega,fun j hj =>?_⟩) (fun j x hj =>?_) (fun x hx =>?_)
   ·simp only[List.length_cons,List.length_nil]at hj
    have:j=0:=by omega
    subst this
    exact (bG (heap_alloc_new w _) (j:=0) (by simp)).trans rfl
   ·cases j with
    | succ j=>simp at hj
    | zero =>
     simp only[List.getElem?_cons_zero,Option.some.injEq]at hj
     subst hj
     exact hu'.keep hk
   ·simp only[List.mem_singleton]at hx
    subst hx
    rfl
theorem QC:bN Tryz.prog 115 (eB (dK (Q1 156 0 (dK (Q2 (rG (eI .i64)))))) xn (fun r =>.fresh 3 1 r.length (ab (eI .i64) r))) where
 callable:=⟨_,Tryz.func115,by kernel_rfl,by kernel_rfl⟩
 calls lent ds rk out hg:=by
  obtain⟨rfl,rfl,l,r,rfl,hr,rfl⟩:=pK hg
  unfold xn at hr
  split at hr
  rotate_left
  ·cases hr
  rename_i hreach
  cases hr
  intro w M vs hM hargs
  have hsz:vs.size=1:=hargs.size
  rw[Nu hsz]
  have hu:=hargs.at_ 0 _ rfl
  generalize vs.getD 0 undef=u at *
  have hu':RP w M (.clo 156 0 [.ip [.sl false false l.length (ab (eI .i64) l)]]) u:=hu
  cases hu' with
  | clo f kk xs us h1 h2 =>
   have hp:=h2 0 _ rfl
   have hus:us=[us.getD 0 undef]:=by
    match us,h1 with
    | [x],_=>rfl
   rw[hus]
   generalize us.getD 0 undef=q at *
   cases hp with
   | ip xs ad us2 h6 h7 h8 =>
    obtain⟨b,o,rfl,hb,hMb,hcell⟩:=h6 (by simp)
    have hcell0:=hcell 0 (by simp)
    rw[Nat.add_zero]at hcell0
    have hs:=h7 0 _ rfl
    have hI:Ints w.heap.size w (us2 0) l:=by
     obtain⟨A,c,hA,k1,k2,k3,k4⟩:=Gr hs
     rw[hA]
     by_cases hl:l=[]
     ·subst hl;exact .inl ⟨A,c,rfl,rfl⟩
     ·obtain⟨b',o',rfl,hb',hM',hc'⟩:=k4 hl
      exact .inr ⟨b',o',c,rfl,hb',fun j hj=>by rw[hc' j hj];simp[List.getD]⟩
    refine (U0 b o (us2 0) l hreach w hb hcell0 hI).mono fun e w' ⟨v,he,hbw,hv⟩ =>?_
    refine⟨v,he,hbw,?_⟩
    rcases hv with⟨rfl,rfl⟩|⟨g,cap,cs,rfl,k1,k2,k3,k4,k5,k6⟩
    ·refine .inr ⟨?_,?_,none,rfl⟩
     ·rw[yF];rfl
     ·rw[yF];rfl
    ·refine .inl ⟨(g,0),cap,cs,by rw[fm],.inl k1,k2,by rw[fm];exact k3,k4,by simp only;omega,by rw[cl,fm];simp only;omega,fun j d hj =>?_⟩
     have hjl:=(List.getElem?_eq_some_iff.1 hj).1
     rw[cl,fm]at hjl
     rw[iQ,Option.map_eq_some_iff]at hj
     obtain⟨z,hz,rfl⟩:=hj
     simp only[Nat.zero_add]
     rw[k6 j hjl]
     have:(fU l).getD j 0=z:=by simp[List.getD,hz]
     rw[this]
     exact⟨rfl,.int _ _⟩
end Go.Proofs.YtpkahnkoecbndaaGreatDoor.Am
namespace Go.Proofs.YtpkahnkoecbndaaGreatDoor.Am
open Go.RowKit Go.Proofs.YtpkahnkoecbndaaGreatDoor.P Go.Shelf
set_option linter.unusedSimpArgs false
set_option linter.unusedVariables false
theorem VQ:(Tryz.prog.info? 150).map (·.size)=some 2:=by kernel_rfl
theorem Xk:liesAt Tryz.prog Tryz.prog.depth 150 (2 / Tryz.prog.cellsOf 150) 0 150 1=true:=by kernel_rfl
theorem Wf:(Tryz.prog.info? 5).map (fun i=>(i.zero,i.size,i.bytes))=some (some (.int .u8 0),1,1):=by kernel_rfl
set_option maxRecDepth 100000 in
theorem Uo (b:Nat) (w:World) (h0:w.cell? ⟨b,0,none⟩=some (.pointer (some ⟨b,0,none⟩))) :
  Calls Tryz.prog 160 #[.pointer (some ⟨b,0,none⟩)] w fun e w'=>e=.returned (.tuple #[])∧w'=w:=by
 obtain⟨j,hj,_⟩:=Option.map_eq_some_iff.1 VQ
 go_enter Tryz.func160,Tryz.ntmps160
 go_wp2
 rw[Lib.run_neq_ptr_same w _ Tryz.underlying147 hj]
 go_wp2
 go_end0
 exact⟨rfl,rfl⟩
set_option maxHeartbeats 1000000 in
set_option maxRecDepth 100000 in
theorem Ru (b:Nat) (w:World) (h0:w.cell? ⟨b,0,none⟩=some (.pointer none)) (hsh:w.shape? b=some (150,2)) (hfz:w.frozen? ⟨b,0,none⟩=false) :
  Calls Tryz.prog 160 #[.pointer (some ⟨b,0,none⟩)] w fun e w'=>e=.returned (.tuple #[])∧w'=w.setCell ⟨b,0,none⟩ (.pointer (some ⟨b,0,none⟩)):=by
 obtain⟨j,hj,hjs⟩:=Option.map_eq_some_iff.1 VQ
 go_enter Tryz.func160,Tryz.ntmps160
 go_wp2
 rw[Lib.run_to_unsafe w ⟨b,0,none⟩ Tryz.underlying147 Tryz.underlying192 hj (by rw[hjs];decide) hsh (Nat.zero_lt_succ 1)]
 simp only[Result.andThen]
 rw[Oper.upon_value]
 go_wp2
 rw[run_callFunc_extern Tryz.func178 (by kernel_rfl) (by kernel_rfl) (by kernel_rfl) (e:=Extern.AbiNoEscape.same) (by kernel_rfl)]
 rw[Lib.run_noEscape]
 simp only[Result.andThen]
 rw[Oper.upon_value]
 go_wp2
 rw[Lib.run_from_unsafe w ⟨b,0,none⟩ Tryz.underlying192 Tryz.underlying147 hj hsh Xk]
 simp only[Result.andThen]
 rw[Oper.upon_value]
 go_wp2
 go_end0
 exact⟨rfl,rfl⟩
theorem PD (B b:Nat) (bs:List Value) (w:World) (h:Lib.IsBuilder 150 5 B b bs w) :
  Calls Tryz.prog 160 #[.pointer (some ⟨b,0,none⟩)] w fun e w'=>e=.returned (.tuple #[])∧(Lib.BuilderAt 150 5 B b (.pointer (some ⟨b,0,none⟩)) bs w'∧Below B w w'):=by
 rcases h with h|h
 ·refine (Ru b w h.cell0 h.shape h.frozen0).mono ?_
  rintro e w' ⟨rfl,rfl⟩
  exact⟨rfl,h.used _,(Below.refl B w).setCell (p:=⟨b,0,none⟩) h.1 _⟩
 ·refine (Uo b w h.cell0).mono ?_
  rintro e w' ⟨rfl,rfl⟩
  exact⟨rfl,h,Below.refl B _⟩
set_option maxHeartbeats 2000000 in
set_option maxRecDepth 100000 in
theorem WR (B b:Nat) (bs:List Value) (s:ByteArray) (w:World) (h:Lib.IsBuilder 150 5 B b bs w) (hlen:bs.length+s.size≤140737488355328) (hBw:B≤w.heap.size) :
  Calls Tryz.prog 120 #[.pointer (some ⟨b,0,none⟩),.string s] w fun e w'=>e=.returned (.tuple #[.int .i64 s.size,.nilIface])∧(Lib.BuilderAt 150 5 B b (.pointer (some ⟨b,0,none⟩)) (bs++Lib.strCells s) w'∧Below B w w'):=by
 obtain⟨i0,hi,hz0,hz1,hz2⟩:=info_parts Wf
 go_enter Tryz.func120,Tryz.ntmps120
 go_wp2_with (go_at_call 160;refine (PD B b bs _ h).mono ?_)
 rintro e w1 ⟨rfl,h1,hb1⟩
 obtain⟨hB,v,hbk,hown,hne⟩:=h1
 have c0:w1.cell? ⟨b,0,none⟩=some (.pointer (some ⟨b,0,none⟩)):=by rw[Lib.cell_of_heap hbk];rfl
 have c1:w1.cell? ⟨b,1,none⟩=some v:=by rw[Lib.cell_of_heap hbk];rfl
 go_wp2_with (at_builtin;refine Lib.wpList_append_own_string _ rfl _ _ 148 9 rfl B 5 i0 Tryz.underlying148 Tryz.underlying9 hi hz0 hz1 hz2 _ _ _ rfl hown s rfl ?c3 ?c4 ?c5 ?_)
 case c3=>unfold maxLen;omega
 case c4=>omega
 case c5=>have:=hb1.size;omega
 intro v' w2 hown' hgrow _
 have hlt:b<w1.heap.size:=(Array.getElem?_eq_some_iff.1 hbk).1
 have hb2:w2.heap[b]? = some (.cells #[.pointer (some ⟨b,0,none⟩),v] 150 (0,0)):=by
  rw[hgrow.block b hlt (fun e=>hne e.symm)]
  exact hbk
 have d0:w2.cell? ⟨b,0,none⟩=some (.pointer (some ⟨b,0,none⟩)):=by rw[Lib.cell_of_heap hb2];rfl
 have d1:w2.cell? ⟨b,1,none⟩=some v:=by rw[Lib.cell_of_heap hb2];rfl
 have f1:w2.frozen? ⟨b,1,none⟩=false:=Lib.frozen_of_heap hb2 1
 obtain⟨ao,n',cap,rfl⟩:∃ao n' cap,v'=.slice ao n' cap:=by
  rcases hown'.2 with⟨hv,_⟩|⟨g,cap,cur,hv,_⟩
  ·exact⟨_,_,_,hv⟩
  ·exact⟨_,_,_,hv⟩
 go_wp2
 go_ret2
 refine⟨rfl,?_,?_⟩
 ·exact Lib.BuilderAt.put (T:=150) (e:=5) hB hb2 (bs':=bs++Lib.strCells s) (by simpa [Lib.strCells_length] using hown') (by decide)
 ·exact (hb1.grown hgrow (by have:=hb1.size;omega) (fun k hk=>(hown.lt k hk).1)).setCell (p:=⟨b,1,none⟩) hB _
theorem O9 (B b:Nat) (l:List UInt8) (w:World) (h:Lib.IsBuilder 150 5 B b (Lib.byteCells l) w) (hBw:B≤w.heap.size) :
  Calls Tryz.prog 122 #[.pointer (some ⟨b,0,none⟩)] w fun e w'=>e=.returned (.string ⟨l.toArray⟩)∧Below B w w':=Any.Builder_String_any Tryz.UD Tryz.RX B b l w h hBw
theorem Tg {P:Program} {w:World} {nm:String} {g ty:Nat} {fr:Nat×Nat} (hg:P.globalNamed nm=some g) (h:w.heap[g]? = some (.cells mD ty fr)):Lib.TabIs P w nm .u64 Lib.pow10Tab:=by
 simp only[Lib.TabIs,World.var?,hg,Option.bind_some,h]
 simp[Lib.pow10Tab,mD]
theorem LU (w:World) (k:Nat) (os:Array Obj):Below w.heap.size w (Go.Sort.grow (w.drewN k) os) :=
 ⟨rfl,rfl,rfl,by simp[Go.Sort.grow],fun j hj=>Go.Sort.heap_grow_old (w.drewN k) os hj⟩
theorem Sf:WU Tryz.prog 121:=fun n w h0 h1 ht=>by
 refine (Any.strconv_Itoa Tryz.Sj n h0 h1 w ?_).mono ?_
 ·obtain⟨ty,fr,h⟩:=ht 0 rfl
  exact Tg (by kernel_rfl) h
 ·rintro e w' ⟨rfl,k,os,rfl⟩
  exact⟨rfl,LU w k os⟩
theorem AT (a b:List UInt8):(⟨a.toArray⟩:ByteArray)++⟨b.toArray⟩=⟨(a++b).toArray⟩:=by
 apply ByteArray.ext
 simp
theorem vM (n:Int) (h0 : -9223372036854775808≤n) (h1:n≤9223372036854775807):(B9 n).size≤21:=by
 have:=Lib.itoa_length_le n h0 h1
 simpa [B9,ByteArray.size] using this
theorem Vc (n:Int) (w:World) (h0 : -9223372036854775808≤n) (h1:n≤9223372036854775807) (ht:∀b,rq=some b→∃ty fr,w.heap[b]? = some (.cells mD ty fr)) :
  Calls Tryz.prog 94 #[.int .i64 n] w fun e w'=>e=.returned (.string ⟨(Lib.itoa n++[59]).toArray⟩)∧Below w.heap.size w w':=by
 have hsz:=vM n h0 h1
 have e1:B9 n++⟨#[59]⟩=⟨(Lib.itoa n++[59]).toArray⟩:=AT (Lib.itoa n) [59]
 go_enter Tryz.func94,Tryz.ntmps94
 go_wp2_with (go_at_call 121;refine (Sf n _ h0 h1 ht).mono ?_;rintro e w' ⟨rfl,hb⟩)
 go_ret
 exact⟨rfl,hb⟩
theorem Ox (w:World):Lib.IsBuilder 150 5 w.heap.size w.heap.size [] (w.alloc (.cells #[.pointer none,.slice none 0 0] 150)) :=
 .inl ⟨Nat.le_refl _,.slice none 0 0,heap_alloc_new w _,World.ownsRow_nil _ _ _ _,by simp[Value.ownBlock]⟩
theorem Nx (B b:Nat) (bs t:List UInt8) (w:World) (h:Lib.IsBuilder 150 5 B b (Lib.byteCells bs) w) (hlen:bs.length+t.length≤140737488355328) (hBw:B≤w.heap.size) :
  Calls Tryz.prog 120 #[.pointer (some ⟨b,0,none⟩),.string ⟨t.toArray⟩] w fun e w'=>∃v,e=.returned v∧(Lib.BuilderAt 150 5 B b (.pointer (some ⟨b,0,none⟩)) (Lib.byteCells (bs++t)) w'∧Below B w w'):=by
 have e1:Lib.strCells ⟨t.toArray⟩=Lib.byteCells t:=rfl
 have e2:(⟨t.toArray⟩:ByteArray).size=t.length:=List.size_toArray
 generalize hS:(⟨t.toArray⟩:ByteArray)=S at *
 refine (WR B b (Lib.byteCells bs) S w h (by rw[Lib.byteCells_length,e2];exact hlen) hBw).mono ?_
 rintro e w' ⟨he,h1,h2⟩
 rw[e1,← Lib.byteCells_append]at h1
 exact⟨_,he,h1,h2⟩
theorem D3 {w w':World} {B ty s n:Nat} {v:Value} {xs:List Value} (h:w.ownsRow B ty s v n xs) (hb:Below w.heap.size w w'):w'.ownsRow B ty s v n xs:=by
 obtain⟨h1,h2⟩:=h
 refine⟨h1,?_⟩
 rcases h2 with h2|⟨g,cap,cur,k1,k2,k3,k4⟩
 ·exact .inl h2
 ·exact .inr ⟨g,cap,cur,k1,k2,(hb.block g (Array.getElem?_eq_some_iff.1 k3).1).trans k3,k4⟩
theorem po {w w':World} {B b:Nat} {p:Value} {bs:List Value} (h:Lib.BuilderAt 150 5 B b p bs w) (hb:Below w.heap.size w w'):Lib.BuilderAt 150 5 B b p bs w':=by
 obtain⟨h1,v,h2,h3,h4⟩:=h
 exact⟨h1,v,(hb.block b (Array.getElem?_eq_some_iff.1 h2).1).trans h2,D3 h3 hb,h4⟩
theorem Fp {w w':World} {B b:Nat} {bs:List Value} (h:Lib.IsBuilder 150 5 B b bs w) (hb:Below w.heap.size w w'):Lib.IsBuilder 150 5 B b bs w':=h.imp (po · hb) (po · hb)
theorem Gf (l:List Int) {k:Nat} (hk:k<l.length):iD (l.take (k+1))=iD (l.take k)++(Lib.itoa (l.getD k 0)++[59]):=by
 rw[List.take_add_one,List.getElem?_eq_getElem hk]
 simp only[iD,List.flatMap_append,Option.toList_some,List.flatMap_cons,List.flatMap_nil,List.append_nil]
 simp[List.getD,hk]
theorem UH (l:List Int) (k:Nat):(iD (l.take k)).length≤(iD l).length:=by
 have:l=l.take k++l.drop k:=(List.take_append_drop k l).symm
 have h2:iD l=iD (l.take k)++iD (l.drop k):=by
  conv=>lhs;rw[this]
  simp only[iD,List.flatMap_append]
 rw[h2]
 simp
end Go.Proofs.YtpkahnkoecbndaaGreatDoor.Am
