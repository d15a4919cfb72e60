/- Part of a proof, made small by a program (wip/mini.py). -/
import Derived.Test.YtpkahnkoecbndaaGreatDoorUb
namespace Go.Proofs.YtpkahnkoecbndaaGreatDoor.Am
open Go.RowKit
set_option linter.unusedSimpArgs false
set_option linter.unusedVariables false
inductive W where
 | code (c:Code)
 | blk (id:Nat)
section
variable (T:Nat→Option Ty) (Γ:Env) (N F:Nat)
def da:List W→Kt→Kt
 | [],Q=>Q
 | .code c::ws,Q=>fun x t h e=>Yv x (L8 T Γ N F c t h e (da ws Q)) (da ws Q x t h e)
 | .blk id::ws,Q=>fun x t h e=>Sa id x t h e (da ws Q)
def lq (ops l:List Oper) (ws:List W) (Q:Kt) (t:Nat→D) (h:Nat→Option Row) (e:Nat):Prop :=
 Du T Γ N e ops l t h fun t h=>da T Γ N F ws Q .normal t h (e+1)
def lr (ops l:List Oper) (ws:List W) (Q:Kt) (t:Nat→D) (h:Nat→Option Row) (e:Nat) (fs:List kI):Prop :=
 runK T Γ N e ops l t h fs fun t h fs=>B3 ops.toArray fs=true∧da T Γ N F ws Q .normal t h (e+1)
def pj (o:Oper) (ops l:List Oper) (ws:List W) (Q:Kt) (t:Nat→D) (h:Nat→Option Row) (e:Nat):Prop :=
 UJ T Γ e o t h fun t E=>lq T Γ N F ops l ws Q (eR t o.dst E.val) (bm h E.hw) e
def pk (o:Oper) (ops l:List Oper) (ws:List W) (Q:Kt) (t:Nat→D) (h:Nat→Option Row) (e:Nat) (fs:List kI):Prop :=
 UJ T Γ e o t h fun t E=>lr T Γ N F ops l ws Q (eR t o.dst E.val) (bm h E.hw) e (fs++[⟨bW o (ev t),E.hw.isEmpty⟩])
def vJ (d:D) (g:Nat) (want:Bool) (o:Oper) (ops l:List Oper) (ws:List W) (Q:Kt) (t:Nat→D) (h:Nat→Option Row) (e:Nat):Prop :=
 wpS d t g (fun t=>if want then pj T Γ N F o ops l ws Q t h e else lq T Γ N F ops l ws Q (eR t o.dst .skp) h e) (fun t=>if want then lq T Γ N F ops l ws Q (eR t o.dst .skp) h e else pj T Γ N F o ops l ws Q t h e) (fun t=>lq T Γ N F ops l ws Q (eR t o.dst .skp) h e)
def vK (d:D) (g:Nat) (want:Bool) (o:Oper) (ops l:List Oper) (ws:List W) (Q:Kt) (t:Nat→D) (h:Nat→Option Row) (e:Nat) (fs:List kI):Prop :=
 wpS d t g (fun t=>if want then pk T Γ N F o ops l ws Q t h e fs else lr T Γ N F ops l ws Q (eR t o.dst .skp) h e (fs++[⟨[],true⟩])) (fun t=>if want then lr T Γ N F ops l ws Q (eR t o.dst .skp) h e (fs++[⟨[],true⟩]) else pk T Γ N F o ops l ws Q t h e fs) (fun t=>lr T Γ N F ops l ws Q (eR t o.dst .skp) h e (fs++[⟨[],true⟩]))
def xb (x:Option dS) (dst:Option Nat) (ops l:List Oper) (ws:List W) (Q:Kt) (t:Nat→D) (h:Nat→Option Row) (e:Nat):Prop :=
 tX x fun E=>lq T Γ N F ops l ws Q (eR t dst E.val) (bm h E.hw) e
def xc (x:Option dS) (dst:Option Nat) (ft:List Nat) (ops l:List Oper) (ws:List W) (Q:Kt) (t:Nat→D) (h:Nat→Option Row) (e:Nat) (fs:List kI):Prop :=
 tX x fun E=>lr T Γ N F ops l ws Q (eR t dst E.val) (bm h E.hw) e (fs++[⟨ft,E.hw.isEmpty⟩])
def Im (d:D) (g:Nat) (x y:Code) (ws:List W) (Q:Kt) (t:Nat→D) (h:Nat→Option Row) (e:Nat):Prop :=
 N3 d t g (fun t=>da T Γ N F (.code x::ws) Q .normal t h e) (fun t=>da T Γ N F (.code y::ws) Q .normal t h e)
def TE (d:D) (g:Nat) (a b:Operand) (dst:Option Nat) (ops l:List Oper) (ws:List W) (Q:Kt) (t:Nat→D) (h:Nat→Option Row) (e:Nat):Prop :=
 N3 d t g (fun t=>lq T Γ N F ops l ws Q (eR t dst (ev t a)) h e) (fun t=>lq T Γ N F ops l ws Q (eR t dst (ev t b)) h e)
def TF (d:D) (g:Nat) (a b:Operand) (dst:Option Nat) (ops l:List Oper) (ws:List W) (Q:Kt) (t:Nat→D) (h:Nat→Option Row) (e:Nat) (fs:List kI):Prop :=
 N3 d t g (fun t=>lr T Γ N F ops l ws Q (eR t dst (ev t a)) h e (fs++[⟨[],true⟩])) (fun t=>lr T Γ N F ops l ws Q (eR t dst (ev t b)) h e (fs++[⟨[],true⟩]))
def Ps (b:Code) (ws:List W) (Q:Kt) (t:Nat→D) (h:Nat→Option Row) (e:Nat):Prop:=L8 T Γ N F (.loop b) t h e (da T Γ N F ws Q)
end
theorem F3 {n:Nat} (h:n≤1000000):n≤maxLen:=Nat.le_trans h (by decide)
theorem Gz {z:List D} : oT 0 z=[]:=Eq.trans rfl rfl
theorem Gy {n:Nat} {z:List D} : oT (n+1) z=z++oT n z:=by simp[oT,List.replicate_succ]
theorem FO {N:Nat} : fits N none=true:=Eq.trans rfl rfl
theorem FP {N i:Nat} : fits N (some i)=decide (i<N):=Eq.trans rfl rfl
def tB:List Oper→Nat→Nat
 | [],_=>0
 | o::_,0=>o.dst.getD 0
 | _::l,j+1=>tB l j
def xM:List Oper→Nat→Bool
 | [],_=>false
 | o::_,0=>o.dst.isSome
 | _::l,j+1=>xM l j
theorem BZ:∀(l:List Oper) (j:Nat),xM l j=true→(l[j]?).bind (·.dst)=some (tB l j)
 | [],j,h=>by simp[xM]at h
 | o::l,0,h=>by
  simp only[xM]at h
  simp only[List.getElem?_cons_zero,Option.bind_some,tB]
  cases hd:o.dst with
  | none=>rw[hd]at h;cases h
  | some d=>rfl
 | o::l,j+1,h=>by simpa [tB] using BZ l j h
theorem B1 {d:Nat} {op:Op} {ty:Nat} {pos:String} {af:Array Edge} {gd:Option (Nat×Bool)} {l:List Oper} : tB (⟨some d,op,ty,pos,af,gd⟩::l) 0=d:=Eq.trans rfl rfl
theorem B0 {o:Oper} {l:List Oper} {j:Nat} : tB (o::l) (j+1)=tB l j:=Eq.trans rfl rfl
theorem CA {d:Nat} {op:Op} {ty:Nat} {pos:String} {af:Array Edge} {gd:Option (Nat×Bool)} {l:List Oper} : xM (⟨some d,op,ty,pos,af,gd⟩::l) 0=true:=Eq.trans rfl rfl
theorem Cz {o:Oper} {l:List Oper} {j:Nat} : xM (o::l) (j+1)=xM l j:=Eq.trans rfl rfl
section
variable {dst:Option Nat} {ty:Nat} {pos:String} {af:Array Edge} {gd:Option (Nat×Bool)} {vs:Operand→D}
def xR (vs:Operand→D):List Operand→List Nat
 | []=>[]
 | x::l=>nm (vs x)++xR vs l
theorem fm (vs:Operand→D):∀l:List Operand,(l.flatMap fun x=>nm (vs x))=xR vs l
 | []=>Eq.trans rfl rfl
 | x::l=>by rw[List.flatMap_cons,fm vs l];exact Eq.trans rfl rfl
theorem Pg:xR vs []=[]:=Eq.trans rfl rfl
theorem KZ {x:Operand} {l:List Operand} : xR vs (x::l)=nm (vs x)++xR vs l:=Eq.trans rfl rfl
theorem As {o:BinOp} {tt z:Nat} {x y:Operand} : bW ⟨dst,.binOp o tt x y z,ty,pos,af,gd⟩ vs=xR vs [x,y]++dst.toList:=by rw[← fm];rfl
theorem DI {o:UnOp} {tt:Nat} {x:Operand} : bW ⟨dst,.unOp o tt x,ty,pos,af,gd⟩ vs=xR vs [x]++dst.toList:=by rw[← fm];rfl
theorem yj {x:Operand} : bW ⟨dst,.assign x,ty,pos,af,gd⟩ vs=xR vs [x]++dst.toList:=by rw[← fm];rfl
theorem DH {tt:Nat} {x:Operand} : bW ⟨dst,.load tt x,ty,pos,af,gd⟩ vs=xR vs [x]++dst.toList:=by rw[← fm];rfl
theorem Ay {tt:Nat} {x y:Operand} : bW ⟨dst,.store tt x y,ty,pos,af,gd⟩ vs=xR vs [x,y]++dst.toList:=by rw[← fm];rfl
theorem uv {x:Operand} : bW ⟨dst,.nilCheck x,ty,pos,af,gd⟩ vs=xR vs [x]++dst.toList:=by rw[← fm];rfl
theorem sN {tt i:Nat} {x:Operand} : bW ⟨dst,.fieldAddr tt x i,ty,pos,af,gd⟩ vs=xR vs [x]++dst.toList:=by rw[← fm];rfl
theorem Av {tt i:Nat} {x:Operand} : bW ⟨dst,.field tt x i,ty,pos,af,gd⟩ vs=xR vs [x]++dst.toList:=by rw[← fm];rfl
theorem sO {tt:Nat} {x i:Operand} : bW ⟨dst,.indexAddr tt x i,ty,pos,af,gd⟩ vs=xR vs [x,i]++dst.toList:=by rw[← fm];rfl
theorem Aw {tt:Nat} {x i:Operand} : bW ⟨dst,.index tt x i,ty,pos,af,gd⟩ vs=xR vs [x,i]++dst.toList:=by rw[← fm];rfl
theorem sP {tt:Nat} {x y:Operand} : bW ⟨dst,.makeSlice tt x y,ty,pos,af,gd⟩ vs=xR vs [x,y]++dst.toList:=by rw[← fm];rfl
theorem Ar {tt:Nat} : bW ⟨dst,.alloc tt,ty,pos,af,gd⟩ vs=xR vs []++dst.toList:=by rw[← fm];rfl
theorem GN {tt:Nat} {x:Operand} : bW ⟨dst,.box tt x,ty,pos,af,gd⟩ vs=xR vs [x]++dst.toList:=by rw[← fm];rfl
theorem wv {tt:Nat} : bW ⟨dst,.makeMap tt none,ty,pos,af,gd⟩ vs=xR vs []++dst.toList:=by rw[← fm];rfl
theorem yl {tt:Nat} {m i:Operand} {ok:Bool} : bW ⟨dst,.lookup tt m i ok,ty,pos,af,gd⟩ vs=xR vs [m,i]++dst.toList:=by rw[← fm];rfl
theorem sQ {tt:Nat} {m i x:Operand} : bW ⟨dst,.mapUpdate tt m i x,ty,pos,af,gd⟩ vs=xR vs [m,i,x]++dst.toList:=by rw[← fm];rfl
theorem yk {tt:Nat} {m i x:Operand} : bW ⟨dst,.insert tt m i x,ty,pos,af,gd⟩ vs=xR vs [m,i,x]++dst.toList:=by rw[← fm];rfl
theorem wo {a b:Nat} {x:Operand} : bW ⟨dst,.convert a b x,ty,pos,af,gd⟩ vs=xR vs [x]++dst.toList:=by rw[← fm];rfl
theorem wq {x:Operand} {i:Nat} : bW ⟨dst,.extract x i,ty,pos,af,gd⟩ vs=xR vs [x]++dst.toList:=by rw[← fm];rfl
theorem Au {tt:Nat} {ps:List (Nat×Operand)} : bW ⟨dst,.build tt ps.toArray,ty,pos,af,gd⟩ vs=xR vs (ps.map (·.2))++dst.toList:=by rw[← fm];rfl
theorem qE {tt len:Nat} {ps:List (Nat×Operand)} : bW ⟨dst,.buildSlice tt len ps.toArray,ty,pos,af,gd⟩ vs=xR vs (ps.map (·.2))++dst.toList:=by rw[← fm];rfl
theorem Ax {tt:Nat} {x:Operand} {lo hi mx:Option Operand} : bW ⟨dst,.slice tt x lo hi mx,ty,pos,af,gd⟩ vs=xR vs (x::(lo.toList++(hi.toList++mx.toList)))++dst.toList:=by
 rw[← fm];cases lo<;>cases hi<;>cases mx<;>rfl
theorem DG {x:Operand} {l:List Operand} {tys:Array Nat} : bW ⟨dst,.call ⟨.value x,l.toArray,tys⟩,ty,pos,af,gd⟩ vs=xR vs (x::l)++dst.toList:=by
 rw[← fm];simp[bW,Op.operands,Call.operands]
theorem wm {x:Builtin} {l:List Operand} {tys:Array Nat} : bW ⟨dst,.call ⟨.builtin x,l.toArray,tys⟩,ty,pos,af,gd⟩ vs=xR vs l++dst.toList:=by
 rw[← fm];simp[bW,Op.operands,Call.operands]
end
section
variable {T:Nat→Option Ty} {ty e:Nat} {dst:Option Nat} {h:Nat→Option Row}
theorem On {k:IntKind} {n:Int} : bR T ty e dst h (.int k n)=some ⟨.int k n,[]⟩:=Eq.trans rfl rfl
theorem IC {b:Bool} : bR T ty e dst h (.bool b)=some ⟨.bool b,[]⟩:=Eq.trans rfl rfl
theorem Ou {b:ByteArray} : bR T ty e dst h (.str b)=some ⟨.str b,[]⟩:=Eq.trans rfl rfl
theorem R7 {tg:Bool} {n:Nat} {xs:List D} : bR T ty e dst h (.sl false tg n xs)=some ⟨.sl false tg n xs,[]⟩:=Eq.trans rfl rfl
theorem Ot {x v o:Nat} : bR T ty e dst h (.ptr x v o)=some ⟨.ptr x v o,[]⟩:=Eq.trans rfl rfl
theorem R4 {xs:List D} : bR T ty e dst h (.ip xs)=some ⟨.ip xs,[]⟩:=Eq.trans rfl rfl
theorem Ol {xs:List D} : bR T ty e dst h (.agg xs)=some ⟨.agg xs,[]⟩:=Eq.trans rfl rfl
theorem Ov {xs:List D} : bR T ty e dst h (.tup xs)=some ⟨.tup xs,[]⟩:=Eq.trans rfl rfl
theorem R3 {f:Nat} : bR T ty e dst h (.fn f)=some ⟨.fn f,[]⟩:=Eq.trans rfl rfl
theorem R5 {x v:Nat} : bR T ty e dst h (.mp x v)=some ⟨.mp x v,[]⟩:=Eq.trans rfl rfl
theorem Oo {ks:List Int} {vs:List D} : bR T ty e dst h (.mpc ks vs)=some ⟨.mpc ks vs,[]⟩:=Eq.trans rfl rfl
theorem R6 {x v y:Nat} : bR T ty e dst h (.pm x v y)=some ⟨.pm x v y,[]⟩:=Eq.trans rfl rfl
theorem A2 {f kk:Nat} {xs:List D} : bR T ty e dst h (.clo f kk xs)=some ⟨.clo f kk xs,[]⟩:=Eq.trans rfl rfl
def WR (b:Bool) (T:Nat→Option Ty) (ty e d:Nat) (h:Nat→Option Row) (x:D):Option dS:=if b then bR T ty e (some d) h x else gQ h x
theorem ET {d:Nat} {x:D} : WR true T ty e d h x=bR T ty e (some d) h x:=Eq.trans rfl rfl
theorem Bu {d:Nat} {x:D} : WR false T ty e d h x=gQ h x:=Eq.trans rfl rfl
theorem V3 {q:Nat→Bool} {d:Nat} {x:D} : pX T q ty e (some d) h x=WR (q d) T ty e d h x:=Eq.trans rfl rfl
theorem Oh {k:IntKind} {n:Int} : gQ h (.int k n)=some ⟨.int k n,[]⟩:=Eq.trans rfl rfl
theorem Iv {b:Bool} : gQ h (.bool b)=some ⟨.bool b,[]⟩:=Eq.trans rfl rfl
theorem Oi {b:ByteArray} : gQ h (.str b)=some ⟨.str b,[]⟩:=Eq.trans rfl rfl
theorem Of {xs:List D} : gQ h (.agg xs)=some ⟨.agg (xs.map canon),[]⟩:=Eq.trans rfl rfl
theorem RV {a b:Bool} {n:Nat} {xs:List D} : gQ h (.sl a b n xs)=some ⟨.sl false false n xs,[]⟩:=Eq.trans rfl rfl
theorem Ow:bR T ty e dst h .und=some ⟨.und,[]⟩:=Eq.trans rfl rfl
def U3 (e d y s o n:Nat) (r:Row):Bool→Option dS
 | true=>some ⟨.buf y r.v s o n,[]⟩
 | false=>some ⟨.buf d e s o n,[(y,none),(d,some { r with v:=e })]⟩
theorem Bt {d y s o n:Nat} {r:Row} : U3 e d y s o n r false=some ⟨.buf d e s o n,[(y,none),(d,some { r with v:=e })]⟩:=Eq.trans rfl rfl
def WQ (e:Nat) (dst:Option Nat) (y s o n:Nat):Option Row→Option dS
 | some r=>match dst with|some d=>U3 e d y s o n r r.fz|none=>some ⟨.und,[]⟩
 | none=>some ⟨.und,[]⟩
theorem ER {d y s o n:Nat} {r:Row} : WQ e (some d) y s o n (some r)=U3 e d y s o n r r.fz:=Eq.trans rfl rfl
theorem Om {d y v s o n:Nat} : bR T ty e (some d) h (.buf y v s o n)=WQ e (some d) y s o n (live h y v):=by
 simp only[bR]
 cases hl:live h y v with
 | none=>rfl
 | some r =>
  obtain⟨_,hv⟩:=bT hl
  simp only[WQ]
  cases hz:r.fz<;>simp[U3,hv,hz]
def U4 (e:Nat) (dst:Option Nat) (T:Nat→Option Ty):Option Ty→Option dS
 | some τ =>
  match dst with
  | some d=>match τ.ds with
   | .slice el=>match T el with|some φ=>some ⟨.buf d e φ.size 0 0,[(d,some ⟨e,el,[],false,true,false⟩)]⟩|none=>none
   | _=>none
  | none=>none
 | none=>none
theorem ES {d el b c:Nat} {z:List Value} {q:Bool} {φ:Ty} (hφ:T el=some φ):U4 e (some d) T (some ⟨.slice el,b,c,z,q⟩)=some ⟨.buf d e φ.size 0 0,[(d,some ⟨e,el,[],false,true,false⟩)]⟩:=by simp only[U4,hφ]
theorem Oq:bR T ty e dst h (.sl true true 0 [])=U4 e dst T (T ty):=by
 unfold bR U4
 cases dst<;>cases T ty<;>rfl
end
def Xf (x:Option D):Option dS:=match x with|some d=>some ⟨d,[]⟩|none=>none
theorem K0 (d:D):Xf (some d)=some ⟨d,[]⟩:=Eq.trans rfl rfl
def ze (x:Option Ty) (f:Ty→Option dS):Option dS:=match x with|some τ=>f τ|none=>none
theorem Ld (τ:Ty) (f:Ty→Option dS):ze (some τ) f=f τ:=Eq.trans rfl rfl
def WU (x:Option (List D×List Nat)) (h:Nat→Option Row) (ty d e:Nat):Option dS :=
 match x with
 | some (cs,fr)=>if fr.contains d=false then some ⟨.ptr d e 0,iY h fr++[(d,some ⟨e,ty,cs,false,false,false⟩)]⟩ else none
 | none=>none
theorem EX (cs:List D) (fr:List Nat) (h:Nat→Option Row) (ty d e:Nat):WU (some (cs,fr)) h ty d e=if fr.contains d=false then some ⟨.ptr d e 0,iY h fr++[(d,some ⟨e,ty,cs,false,false,false⟩)]⟩ else none:=Eq.trans rfl rfl
def VE (d e:Nat):Option Nat→D
 | some y =>.pm d e y
 | none =>.ptr d e 0
theorem Gi {d e y:Nat} : VE d e (some y)=.pm d e y:=Eq.trans rfl rfl
theorem Gh {d e:Nat} : VE d e none=.ptr d e 0:=Eq.trans rfl rfl
def Br (x:Option Ty) (ty d e:Nat) (y:Option Nat):Option dS :=
 match x with
 | some τ=>if (τ.zero.map qt).all aY then some ⟨VE d e y,[(d,some ⟨e,ty,τ.zero.map qt,false,false,false⟩)]⟩ else none
 | none=>none
theorem zr (τ:Ty) (ty d e:Nat) (y:Option Nat):Br (some τ) ty d e y=if (τ.zero.map qt).all aY then some ⟨VE d e y,[(d,some ⟨e,ty,τ.zero.map qt,false,false,false⟩)]⟩ else none:=Eq.trans rfl rfl
def Yg (T:Nat→Option Ty) (x:Option Ty) (ty e d:Nat):Option dS:=match x with|some τ=>oE T ty τ e d|none=>none
def Ss (x y:Option Ty) (d:D):Option dS :=
 match x,y,d with
 | some τ,some _,.int _ n=>(match τ.ds with | .int k=>some ⟨.int k (k.wrap n),[]⟩|_=>none)
 | _,_,_=>none
theorem Ff (k:IntKind) (b c:Nat) (z:List Value) (q:Bool) (σ:Ty) (k':IntKind) (n:Int):Ss (some ⟨.int k,b,c,z,q⟩) (some σ) (.int k' n)=some ⟨.int k (k.wrap n),[]⟩:=Eq.trans rfl rfl
def Vj (d:D) (i:Nat):Option dS:=match d with | .tup xs=>(match xs[i]? with|some d=>some ⟨d,[]⟩|none=>none)|_=>none
theorem JD (xs:List D) (i:Nat):Vj (.tup xs) i=Xf xs[i]?:=by simp only[Vj,Xf]
section
variable {T:Nat→Option Ty} {Γ:Env} {N F e:Nat} {ws:List W} {Q:Kt} {t:Nat→D} {h:Nat→Option Row}
theorem dr {x:Ex} : da T Γ N F [] Q x t h e=Q x t h e:=Eq.trans rfl rfl
theorem GJ:da T Γ N F (.code .skip::ws) Q .normal t h e=da T Γ N F ws Q .normal t h e:=Eq.trans rfl rfl
theorem Lt {a b:Code} : da T Γ N F (.code (.seq a b)::ws) Q .normal t h e=da T Γ N F (.code a :: .code b::ws) Q .normal t h e:=Eq.trans rfl rfl
theorem Ls:da T Γ N F (.code .ret::ws) Q .normal t h e=da T Γ N F ws Q .ret t h e:=Eq.trans rfl rfl
theorem GH {id:Nat} : da T Γ N F (.code (.exit id)::ws) Q .normal t h e=da T Γ N F ws Q (.exit id) t h e:=Eq.trans rfl rfl
theorem Dv {id:Nat} {b:Code} : da T Γ N F (.code (.block id b)::ws) Q .normal t h e=da T Γ N F (.code b :: .blk id::ws) Q .normal t h e:=Eq.trans rfl rfl
theorem GI {b:Code} : da T Γ N F (.code (.loop b)::ws) Q .normal t h e=Ps T Γ N F b ws Q t h e:=Eq.trans rfl rfl
theorem bq {c:Code} : da T Γ N F (.code c::ws) Q .ret t h e=da T Γ N F ws Q .ret t h e:=Eq.trans rfl rfl
theorem bj {c:Code} {n:Nat} : da T Γ N F (.code c::ws) Q (.exit n) t h e=da T Γ N F ws Q (.exit n) t h e:=Eq.trans rfl rfl
theorem sK {id:Nat} : da T Γ N F (.blk id::ws) Q .normal t h e=da T Γ N F ws Q .normal t h e:=Eq.trans rfl rfl
theorem bF {id:Nat} : da T Γ N F (.blk id::ws) Q .ret t h e=da T Γ N F ws Q .ret t h e:=Eq.trans rfl rfl
theorem we {id n:Nat} : da T Γ N F (.blk id::ws) Q (.exit n) t h e=if n=id then da T Γ N F ws Q .normal t h e else da T Γ N F ws Q (.exit n) t h e:=Eq.trans rfl rfl
theorem An {i:Nat} {ops:List Oper} : da T Γ N F (.code (.region i ops.toArray false)::ws) Q .normal t h e=lq T Γ N F ops ops ws Q t h e:=Eq.trans rfl rfl
theorem Dy {i:Nat} {ops:List Oper} : da T Γ N F (.code (.region i ops.toArray true)::ws) Q .normal t h e=lr T Γ N F ops ops ws Q t h e []:=Eq.trans rfl rfl
theorem GG {g:Nat} {x y:Code} : da T Γ N F (.code (.cond (.tmp g) x y)::ws) Q .normal t h e=Im T Γ N F (t g) g x y ws Q t h e:=Eq.trans rfl rfl
theorem Dx {x y:Code} : da T Γ N F (.code (.cond (.const (.bool true)) x y)::ws) Q .normal t h e=da T Γ N F (.code x::ws) Q .normal t h e:=Eq.trans rfl rfl
theorem Dw {x y:Code} : da T Γ N F (.code (.cond (.const (.bool false)) x y)::ws) Q .normal t h e=da T Γ N F (.code y::ws) Q .normal t h e:=Eq.trans rfl rfl
theorem GQ {g:Nat} {x y:Code} (hg:t g=.bool true):Im T Γ N F (.bool true) g x y ws Q t h e=da T Γ N F (.code x::ws) Q .normal t h e:=yn hg
theorem DK {g:Nat} {x y:Code} (hg:t g=.bool false):Im T Γ N F (.bool false) g x y ws Q t h e=da T Γ N F (.code y::ws) Q .normal t h e:=vw hg
theorem Rl {b:Bool} {g:Nat} {x y:Code} : Im T Γ N F (.bool b) g x y ws Q t h e=br b (da T Γ N F (.code x::ws) Q .normal (er t g (.bool true)) h e) (da T Γ N F (.code y::ws) Q .normal (er t g (.bool false)) h e):=by
 unfold Im;rw[UI];cases b<;>simp[br]
variable {ops l:List Oper} {dst:Option Nat} {op:Op} {ty:Nat} {pos:String} {af:Array Edge} {gd:Option (Nat×Bool)} {fs:List kI}
theorem Lq:lq T Γ N F ops [] ws Q t h e=da T Γ N F ws Q .normal t h (e+1):=Eq.trans rfl rfl
theorem GD (hf:fits N dst=true):lq T Γ N F ops (⟨dst,op,ty,pos,af,none⟩::l) ws Q t h e=pj T Γ N F ⟨dst,op,ty,pos,af,none⟩ ops l ws Q t h e:=by
 simp only[lq,Du,UL,hf,true_and,pj]
theorem Dr {j:Nat} {want:Bool} (hf:fits N dst=true) (hj:xM ops j=true):lq T Γ N F ops (⟨dst,op,ty,pos,af,some (j,want)⟩::l) ws Q t h e=vJ T Γ N F (t (tB ops j)) (tB ops j) want ⟨dst,op,ty,pos,af,none⟩ ops l ws Q t h e:=by
 simp only[lq,Du,UL,hf,true_and,BZ ops j hj,rM,vJ]
 cases want<;>rfl
theorem LV {g:Nat} {want:Bool} {o:Oper} : vJ T Γ N F .skp g want o ops l ws Q t h e=lq T Γ N F ops l ws Q (eR t o.dst .skp) h e:=Eq.trans rfl rfl
theorem GR {g:Nat} {o:Oper} (hg:t g=.bool true):vJ T Γ N F (.bool true) g true o ops l ws Q t h e=pj T Γ N F o ops l ws Q t h e:=(yq hg).trans (if_pos rfl)
theorem DL {g:Nat} {o:Oper} (hg:t g=.bool false):vJ T Γ N F (.bool false) g true o ops l ws Q t h e=lq T Γ N F ops l ws Q (eR t o.dst .skp) h e:=(vx hg).trans (if_pos rfl)
theorem DM {g:Nat} {o:Oper} (hg:t g=.bool true):vJ T Γ N F (.bool true) g false o ops l ws Q t h e=lq T Γ N F ops l ws Q (eR t o.dst .skp) h e:=(yq hg).trans (if_neg (by decide))
theorem Az {g:Nat} {o:Oper} (hg:t g=.bool false):vJ T Γ N F (.bool false) g false o ops l ws Q t h e=pj T Γ N F o ops l ws Q t h e:=(vx hg).trans (if_neg (by decide))
theorem Rm {b:Bool} {g:Nat} {o:Oper} : vJ T Γ N F (.bool b) g true o ops l ws Q t h e=br b (pj T Γ N F o ops l ws Q (er t g (.bool true)) h e) (lq T Γ N F ops l ws Q (eR (er t g (.bool false)) o.dst .skp) h e):=by
 unfold vJ;rw[yp];cases b<;>simp[br]
theorem NU {b:Bool} {g:Nat} {o:Oper} : vJ T Γ N F (.bool b) g false o ops l ws Q t h e=br b (lq T Γ N F ops l ws Q (eR (er t g (.bool true)) o.dst .skp) h e) (pj T Γ N F o ops l ws Q (er t g (.bool false)) h e):=by
 unfold vJ;rw[yp];cases b<;>simp[br]
theorem Lr:lr T Γ N F ops [] ws Q t h e fs=(B3 ops.toArray fs=true∧da T Γ N F ws Q .normal t h (e+1)):=Eq.trans rfl rfl
theorem GF (hf:fits N dst=true):lr T Γ N F ops (⟨dst,op,ty,pos,af,none⟩::l) ws Q t h e fs=pk T Γ N F ⟨dst,op,ty,pos,af,none⟩ ops l ws Q t h e fs:=by
 simp only[lr,runK,UL,hf,true_and,pk]
theorem Dt {j:Nat} {want:Bool} (hf:fits N dst=true) (hj:xM ops j=true):lr T Γ N F ops (⟨dst,op,ty,pos,af,some (j,want)⟩::l) ws Q t h e fs=vK T Γ N F (t (tB ops j)) (tB ops j) want ⟨dst,op,ty,pos,af,none⟩ ops l ws Q t h e fs:=by
 simp only[lr,runK,UL,hf,true_and,BZ ops j hj,rM,vK]
 cases want<;>rfl
theorem LY {g:Nat} {want:Bool} {o:Oper} : vK T Γ N F .skp g want o ops l ws Q t h e fs=lr T Γ N F ops l ws Q (eR t o.dst .skp) h e (fs++[⟨[],true⟩]):=Eq.trans rfl rfl
theorem GS {g:Nat} {o:Oper} (hg:t g=.bool true):vK T Γ N F (.bool true) g true o ops l ws Q t h e fs=pk T Γ N F o ops l ws Q t h e fs:=(yq hg).trans (if_pos rfl)
theorem DN {g:Nat} {o:Oper} (hg:t g=.bool false):vK T Γ N F (.bool false) g true o ops l ws Q t h e fs=lr T Γ N F ops l ws Q (eR t o.dst .skp) h e (fs++[⟨[],true⟩]):=(vx hg).trans (if_pos rfl)
theorem DO {g:Nat} {o:Oper} (hg:t g=.bool true):vK T Γ N F (.bool true) g false o ops l ws Q t h e fs=lr T Γ N F ops l ws Q (eR t o.dst .skp) h e (fs++[⟨[],true⟩]):=(yq hg).trans (if_neg (by decide))
theorem AA {g:Nat} {o:Oper} (hg:t g=.bool false):vK T Γ N F (.bool false) g false o ops l ws Q t h e fs=pk T Γ N F o ops l ws Q t h e fs:=(vx hg).trans (if_neg (by decide))
theorem Rn {b:Bool} {g:Nat} {o:Oper} : vK T Γ N F (.bool b) g true o ops l ws Q t h e fs=br b (pk T Γ N F o ops l ws Q (er t g (.bool true)) h e fs) (lr T Γ N F ops l ws Q (eR (er t g (.bool false)) o.dst .skp) h e (fs++[⟨[],true⟩])):=by
 unfold vK;rw[yp];cases b<;>simp[br]
theorem NV {b:Bool} {g:Nat} {o:Oper} : vK T Γ N F (.bool b) g false o ops l ws Q t h e fs=br b (lr T Γ N F ops l ws Q (eR (er t g (.bool true)) o.dst .skp) h e (fs++[⟨[],true⟩])) (pk T Γ N F o ops l ws Q (er t g (.bool false)) h e fs):=by
 unfold vK;rw[yp];cases b<;>simp[br]
theorem LM {d:D} {hw:List (Nat×Option Row)} : xb T Γ N F (some ⟨d,hw⟩) dst ops l ws Q t h e=lq T Γ N F ops l ws Q (eR t dst d) (bm h hw) e:=Eq.trans rfl rfl
theorem LN {d:D} {hw:List (Nat×Option Row)} {ft:List Nat} : xc T Γ N F (some ⟨d,hw⟩) dst ft ops l ws Q t h e fs=lr T Γ N F ops l ws Q (eR t dst d) (bm h hw) e (fs++[⟨ft,hw.isEmpty⟩]):=Eq.trans rfl rfl
theorem Px {c:Prop} [Decidable c] {E:dS} : xb T Γ N F (if c then some E else none) dst ops l ws Q t h e=(c∧xb T Γ N F (some E) dst ops l ws Q t h e):=by
 by_cases hc:c<;>simp[hc,xb,tX]
theorem Py {c:Prop} [Decidable c] {E:dS} {ft:List Nat} : xc T Γ N F (if c then some E else none) dst ft ops l ws Q t h e fs=(c∧xc T Γ N F (some E) dst ft ops l ws Q t h e fs):=by
 by_cases hc:c<;>simp[hc,xc,tX]
theorem C6 {g:Nat} {a b:Operand} (hg:t g=.bool true):TE T Γ N F (.bool true) g a b dst ops l ws Q t h e=lq T Γ N F ops l ws Q (eR t dst (ev t a)) h e:=yn hg
theorem z8 {g:Nat} {a b:Operand} (hg:t g=.bool false):TE T Γ N F (.bool false) g a b dst ops l ws Q t h e=lq T Γ N F ops l ws Q (eR t dst (ev t b)) h e:=vw hg
theorem C7 {g:Nat} {a b:Operand} (hg:t g=.bool true):TF T Γ N F (.bool true) g a b dst ops l ws Q t h e fs=lr T Γ N F ops l ws Q (eR t dst (ev t a)) h e (fs++[⟨[],true⟩]):=yn hg
theorem Aa {g:Nat} {a b:Operand} (hg:t g=.bool false):TF T Γ N F (.bool false) g a b dst ops l ws Q t h e fs=lr T Γ N F ops l ws Q (eR t dst (ev t b)) h e (fs++[⟨[],true⟩]):=vw hg
theorem Jk {c:Nat} {a b:Operand} : pj T Γ N F ⟨dst,.pick (.tmp c) a b,ty,pos,af,gd⟩ ops l ws Q t h e=TE T Γ N F (t c) c a b dst ops l ws Q t h e:=Eq.trans rfl rfl
theorem Jq {c:Nat} {a b:Operand} : pk T Γ N F ⟨dst,.pick (.tmp c) a b,ty,pos,af,gd⟩ ops l ws Q t h e fs=TF T Γ N F (t c) c a b dst ops l ws Q t h e fs:=Eq.trans rfl rfl
theorem Jj {x:Operand} : pj T Γ N F ⟨dst,.move x,ty,pos,af,gd⟩ ops l ws Q t h e=lq T Γ N F ops l ws Q (eR t dst (ev t x)) h e:=Eq.trans rfl rfl
theorem Jp {x:Operand} : pk T Γ N F ⟨dst,.move x,ty,pos,af,gd⟩ ops l ws Q t h e fs=lr T Γ N F ops l ws Q (eR t dst (ev t x)) h e (fs++[⟨[],true⟩]):=Eq.trans rfl rfl
theorem dT {x:Option dS} (hp:∀c a b,op ≠ .pick c a b) (hx:l4 T Γ e ⟨dst,op,ty,pos,af,gd⟩ (ev t) h=x):pj T Γ N F ⟨dst,op,ty,pos,af,gd⟩ ops l ws Q t h e=xb T Γ N F x dst ops l ws Q t h e:=by
 subst hx
 unfold pj xb UJ
 cases op<;>first|rfl|exact absurd rfl (hp _ _ _)
theorem dU {x:Option dS} (hp:∀c a b,op ≠ .pick c a b) (hx:l4 T Γ e ⟨dst,op,ty,pos,af,gd⟩ (ev t) h=x):pk T Γ N F ⟨dst,op,ty,pos,af,gd⟩ ops l ws Q t h e fs=xc T Γ N F x dst (bW ⟨dst,op,ty,pos,af,gd⟩ (ev t)) ops l ws Q t h e fs:=by
 subst hx
 unfold pk xc UJ
 cases op<;>first|rfl|exact absurd rfl (hp _ _ _)
theorem Fh {o:BinOp} {tt z:Nat} {x y:Operand} : pj T Γ N F ⟨dst,.binOp o tt x y z,ty,pos,af,gd⟩ ops l ws Q t h e=xb T Γ N F (Xf (yJ T tt o (ev t x) (ev t y))) dst ops l ws Q t h e:=dT (fun _ _ _ hh=>by cases hh) (by simp only[l4];first|rfl|(cases yJ T tt o (ev t x) (ev t y)<;>rfl))
theorem Fq {o:BinOp} {tt z:Nat} {x y:Operand} : pk T Γ N F ⟨dst,.binOp o tt x y z,ty,pos,af,gd⟩ ops l ws Q t h e fs=xc T Γ N F (Xf (yJ T tt o (ev t x) (ev t y))) dst (bW ⟨dst,.binOp o tt x y z,ty,pos,af,gd⟩ (ev t)) ops l ws Q t h e fs:=dU (fun _ _ _ hh=>by cases hh) (by simp only[l4];first|rfl|(cases yJ T tt o (ev t x) (ev t y)<;>rfl))
theorem Jl {o:UnOp} {tt:Nat} {x:Operand} : pj T Γ N F ⟨dst,.unOp o tt x,ty,pos,af,gd⟩ ops l ws Q t h e=xb T Γ N F (Xf (EI o (ev t x))) dst ops l ws Q t h e:=dT (fun _ _ _ hh=>by cases hh) (by simp only[l4];first|rfl|(cases EI o (ev t x)<;>rfl))
theorem Jr {o:UnOp} {tt:Nat} {x:Operand} : pk T Γ N F ⟨dst,.unOp o tt x,ty,pos,af,gd⟩ ops l ws Q t h e fs=xc T Γ N F (Xf (EI o (ev t x))) dst (bW ⟨dst,.unOp o tt x,ty,pos,af,gd⟩ (ev t)) ops l ws Q t h e fs:=dU (fun _ _ _ hh=>by cases hh) (by simp only[l4];first|rfl|(cases EI o (ev t x)<;>rfl))
theorem BR {x:Operand} : pj T Γ N F ⟨dst,.assign x,ty,pos,af,gd⟩ ops l ws Q t h e=xb T Γ N F (pX T Γ.own ty e dst h (ev t x)) dst ops l ws Q t h e:=dT (fun _ _ _ hh=>by cases hh) rfl
theorem BU {x:Operand} : pk T Γ N F ⟨dst,.assign x,ty,pos,af,gd⟩ ops l ws Q t h e fs=xc T Γ N F (pX T Γ.own ty e dst h (ev t x)) dst (bW ⟨dst,.assign x,ty,pos,af,gd⟩ (ev t)) ops l ws Q t h e fs:=dU (fun _ _ _ hh=>by cases hh) rfl
theorem xr {f:Nat} {first caps:List Operand} : pj T Γ N F ⟨dst,.makeFunc (.func f) first.toArray caps.toArray,ty,pos,af,gd⟩ ops l ws Q t h e=xb T Γ N F (if (first.map (ev t)++caps.map (ev t)).all ja then some ⟨.clo f first.length (first.map (ev t)++caps.map (ev t)),[]⟩ else none) dst ops l ws Q t h e:=dT (fun _ _ _ hh=>by cases hh) rfl
theorem xu {f:Nat} {first caps:List Operand} : pk T Γ N F ⟨dst,.makeFunc (.func f) first.toArray caps.toArray,ty,pos,af,gd⟩ ops l ws Q t h e fs=xc T Γ N F (if (first.map (ev t)++caps.map (ev t)).all ja then some ⟨.clo f first.length (first.map (ev t)++caps.map (ev t)),[]⟩ else none) dst (bW ⟨dst,.makeFunc (.func f) first.toArray caps.toArray,ty,pos,af,gd⟩ (ev t)) ops l ws Q t h e fs:=dU (fun _ _ _ hh=>by cases hh) rfl
theorem Jh {tt:Nat} {x:Operand} : pj T Γ N F ⟨dst,.load tt x,ty,pos,af,gd⟩ ops l ws Q t h e=xb T Γ N F (ze (T tt) fun τ=>mw τ h (ev t x)) dst ops l ws Q t h e:=dT (fun _ _ _ hh=>by cases hh) (by simp only[l4];first|rfl|(cases T tt<;>rfl))
theorem Jn {tt:Nat} {x:Operand} : pk T Γ N F ⟨dst,.load tt x,ty,pos,af,gd⟩ ops l ws Q t h e fs=xc T Γ N F (ze (T tt) fun τ=>mw τ h (ev t x)) dst (bW ⟨dst,.load tt x,ty,pos,af,gd⟩ (ev t)) ops l ws Q t h e fs:=dU (fun _ _ _ hh=>by cases hh) (by simp only[l4];first|rfl|(cases T tt<;>rfl))
theorem Fo {tt:Nat} {x y:Operand} : pj T Γ N F ⟨dst,.store tt x y,ty,pos,af,gd⟩ ops l ws Q t h e=xb T Γ N F (ze (T tt) fun τ=>cZ τ h (ev t x) (ev t y)) dst ops l ws Q t h e:=dT (fun _ _ _ hh=>by cases hh) (by simp only[l4];first|rfl|(cases T tt<;>rfl))
theorem Fx {tt:Nat} {x y:Operand} : pk T Γ N F ⟨dst,.store tt x y,ty,pos,af,gd⟩ ops l ws Q t h e fs=xc T Γ N F (ze (T tt) fun τ=>cZ τ h (ev t x) (ev t y)) dst (bW ⟨dst,.store tt x y,ty,pos,af,gd⟩ (ev t)) ops l ws Q t h e fs:=dU (fun _ _ _ hh=>by cases hh) (by simp only[l4];first|rfl|(cases T tt<;>rfl))
theorem xt {x:Operand} : pj T Γ N F ⟨dst,.nilCheck x,ty,pos,af,gd⟩ ops l ws Q t h e=xb T Γ N F (jh h (ev t x)) dst ops l ws Q t h e:=dT (fun _ _ _ hh=>by cases hh) rfl
theorem xv {x:Operand} : pk T Γ N F ⟨dst,.nilCheck x,ty,pos,af,gd⟩ ops l ws Q t h e fs=xc T Γ N F (jh h (ev t x)) dst (bW ⟨dst,.nilCheck x,ty,pos,af,gd⟩ (ev t)) ops l ws Q t h e fs:=dU (fun _ _ _ hh=>by cases hh) rfl
theorem vL {tt i:Nat} {x:Operand} : pj T Γ N F ⟨dst,.fieldAddr tt x i,ty,pos,af,gd⟩ ops l ws Q t h e=xb T Γ N F (ze (T tt) fun τ=>dN T τ h i (ev t x)) dst ops l ws Q t h e:=dT (fun _ _ _ hh=>by cases hh) (by simp only[l4];first|rfl|(cases T tt<;>rfl))
theorem vP {tt i:Nat} {x:Operand} : pk T Γ N F ⟨dst,.fieldAddr tt x i,ty,pos,af,gd⟩ ops l ws Q t h e fs=xc T Γ N F (ze (T tt) fun τ=>dN T τ h i (ev t x)) dst (bW ⟨dst,.fieldAddr tt x i,ty,pos,af,gd⟩ (ev t)) ops l ws Q t h e fs:=dU (fun _ _ _ hh=>by cases hh) (by simp only[l4];first|rfl|(cases T tt<;>rfl))
theorem Fj {tt i:Nat} {x:Operand} : pj T Γ N F ⟨dst,.field tt x i,ty,pos,af,gd⟩ ops l ws Q t h e=xb T Γ N F (ze (T tt) fun τ=>kR T τ i (ev t x)) dst ops l ws Q t h e:=dT (fun _ _ _ hh=>by cases hh) (by simp only[l4];first|rfl|(cases T tt<;>rfl))
theorem Ft {tt i:Nat} {x:Operand} : pk T Γ N F ⟨dst,.field tt x i,ty,pos,af,gd⟩ ops l ws Q t h e fs=xc T Γ N F (ze (T tt) fun τ=>kR T τ i (ev t x)) dst (bW ⟨dst,.field tt x i,ty,pos,af,gd⟩ (ev t)) ops l ws Q t h e fs:=dU (fun _ _ _ hh=>by cases hh) (by simp only[l4];first|rfl|(cases T tt<;>rfl))
theorem vM {tt:Nat} {x i:Operand} : pj T Γ N F ⟨dst,.indexAddr tt x i,ty,pos,af,gd⟩ ops l ws Q t h e=xb T Γ N F (ze (T tt) fun τ=>bM T τ h (ev t x) (ev t i)) dst ops l ws Q t h e:=dT (fun _ _ _ hh=>by cases hh) (by simp only[l4];first|rfl|(cases T tt<;>rfl))
theorem vQ {tt:Nat} {x i:Operand} : pk T Γ N F ⟨dst,.indexAddr tt x i,ty,pos,af,gd⟩ ops l ws Q t h e fs=xc T Γ N F (ze (T tt) fun τ=>bM T τ h (ev t x) (ev t i)) dst (bW ⟨dst,.indexAddr tt x i,ty,pos,af,gd⟩ (ev t)) ops l ws Q t h e fs:=dU (fun _ _ _ hh=>by cases hh) (by simp only[l4];first|rfl|(cases T tt<;>rfl))
theorem Fk {tt:Nat} {x i:Operand} : pj T Γ N F ⟨dst,.index tt x i,ty,pos,af,gd⟩ ops l ws Q t h e=xb T Γ N F (ze (T tt) fun τ=>fT T τ (ev t x) (ev t i)) dst ops l ws Q t h e:=dT (fun _ _ _ hh=>by cases hh) (by simp only[l4];first|rfl|(cases T tt<;>rfl))
theorem Fu {tt:Nat} {x i:Operand} : pk T Γ N F ⟨dst,.index tt x i,ty,pos,af,gd⟩ ops l ws Q t h e fs=xc T Γ N F (ze (T tt) fun τ=>fT T τ (ev t x) (ev t i)) dst (bW ⟨dst,.index tt x i,ty,pos,af,gd⟩ (ev t)) ops l ws Q t h e fs:=dU (fun _ _ _ hh=>by cases hh) (by simp only[l4];first|rfl|(cases T tt<;>rfl))
theorem Fl {tt:Nat} {x:Operand} {lo hi mx:Option Operand} : pj T Γ N F ⟨dst,.slice tt x lo hi mx,ty,pos,af,gd⟩ ops l ws Q t h e=xb T Γ N F (ze (T tt) fun τ=>cK T τ h (ev t x) (lo.map (ev t)) (hi.map (ev t)) (mx.map (ev t))) dst ops l ws Q t h e:=dT (fun _ _ _ hh=>by cases hh) (by simp only[l4];first|rfl|(cases T tt<;>rfl))
theorem Fv {tt:Nat} {x:Operand} {lo hi mx:Option Operand} : pk T Γ N F ⟨dst,.slice tt x lo hi mx,ty,pos,af,gd⟩ ops l ws Q t h e fs=xc T Γ N F (ze (T tt) fun τ=>cK T τ h (ev t x) (lo.map (ev t)) (hi.map (ev t)) (mx.map (ev t))) dst (bW ⟨dst,.slice tt x lo hi mx,ty,pos,af,gd⟩ (ev t)) ops l ws Q t h e fs:=dU (fun _ _ _ hh=>by cases hh) (by simp only[l4];first|rfl|(cases T tt<;>rfl))
theorem Fi {tt:Nat} {ps:List (Nat×Operand)} : pj T Γ N F ⟨dst,.build tt ps.toArray,ty,pos,af,gd⟩ ops l ws Q t h e=xb T Γ N F (ze (T tt) fun τ=>oA Γ.own T τ h dst (ps.map fun p=>(p.1,ev t p.2))) dst ops l ws Q t h e:=dT (fun _ _ _ hh=>by cases hh) (by simp only[l4];first|rfl|(cases T tt<;>rfl))
theorem Fs {tt:Nat} {ps:List (Nat×Operand)} : pk T Γ N F ⟨dst,.build tt ps.toArray,ty,pos,af,gd⟩ ops l ws Q t h e fs=xc T Γ N F (ze (T tt) fun τ=>oA Γ.own T τ h dst (ps.map fun p=>(p.1,ev t p.2))) dst (bW ⟨dst,.build tt ps.toArray,ty,pos,af,gd⟩ (ev t)) ops l ws Q t h e fs:=dU (fun _ _ _ hh=>by cases hh) (by simp only[l4];first|rfl|(cases T tt<;>rfl))
theorem tx {tt len d:Nat} {ps:List (Nat×Operand)} : pj T Γ N F ⟨some d,.buildSlice tt len ps.toArray,ty,pos,af,gd⟩ ops l ws Q t h e=xb T Γ N F (ze (T tt) fun τ=>dM T τ h e d len (ps.map fun p=>(p.1,ev t p.2))) (some d) ops l ws Q t h e:=dT (fun _ _ _ hh=>by cases hh) (by simp only[l4];first|rfl|(cases T tt<;>rfl))
theorem tz {tt len d:Nat} {ps:List (Nat×Operand)} : pk T Γ N F ⟨some d,.buildSlice tt len ps.toArray,ty,pos,af,gd⟩ ops l ws Q t h e fs=xc T Γ N F (ze (T tt) fun τ=>dM T τ h e d len (ps.map fun p=>(p.1,ev t p.2))) (some d) (bW ⟨some d,.buildSlice tt len ps.toArray,ty,pos,af,gd⟩ (ev t)) ops l ws Q t h e fs:=dU (fun _ _ _ hh=>by cases hh) (by simp only[l4];first|rfl|(cases T tt<;>rfl))
theorem vN {tt d:Nat} {x y:Operand} : pj T Γ N F ⟨some d,.makeSlice tt x y,ty,pos,af,gd⟩ ops l ws Q t h e=xb T Γ N F (ze (T tt) fun τ=>pn T τ e d (ev t x) (ev t y)) (some d) ops l ws Q t h e:=dT (fun _ _ _ hh=>by cases hh) (by simp only[l4];first|rfl|(cases T tt<;>rfl))
theorem vR {tt d:Nat} {x y:Operand} : pk T Γ N F ⟨some d,.makeSlice tt x y,ty,pos,af,gd⟩ ops l ws Q t h e fs=xc T Γ N F (ze (T tt) fun τ=>pn T τ e d (ev t x) (ev t y)) (some d) (bW ⟨some d,.makeSlice tt x y,ty,pos,af,gd⟩ (ev t)) ops l ws Q t h e fs:=dU (fun _ _ _ hh=>by cases hh) (by simp only[l4];first|rfl|(cases T tt<;>rfl))
theorem Fg {tt d:Nat} : pj T Γ N F ⟨some d,.alloc tt,ty,pos,af,gd⟩ ops l ws Q t h e=xb T Γ N F (Br (T tt) tt d e (Γ.hint d)) (some d) ops l ws Q t h e:=dT (fun _ _ _ hh=>by cases hh) (by simp only[l4];cases T tt with|none=>rfl|some τ=>(dsimp only[Br];cases Γ.hint d<;>rfl))
theorem Fp {tt d:Nat} : pk T Γ N F ⟨some d,.alloc tt,ty,pos,af,gd⟩ ops l ws Q t h e fs=xc T Γ N F (Br (T tt) tt d e (Γ.hint d)) (some d) (bW ⟨some d,.alloc tt,ty,pos,af,gd⟩ (ev t)) ops l ws Q t h e fs:=dU (fun _ _ _ hh=>by cases hh) (by simp only[l4];cases T tt with|none=>rfl|some τ=>(dsimp only[Br];cases Γ.hint d<;>rfl))
theorem zG {tt d:Nat} : pj T Γ N F ⟨some d,.makeMap tt none,ty,pos,af,gd⟩ ops l ws Q t h e=xb T Γ N F (Yg T (T tt) tt e d) (some d) ops l ws Q t h e:=dT (fun _ _ _ hh=>by cases hh) (by simp only[l4];first|rfl|(cases T tt<;>rfl))
theorem zK {tt d:Nat} : pk T Γ N F ⟨some d,.makeMap tt none,ty,pos,af,gd⟩ ops l ws Q t h e fs=xc T Γ N F (Yg T (T tt) tt e d) (some d) (bW ⟨some d,.makeMap tt none,ty,pos,af,gd⟩ (ev t)) ops l ws Q t h e fs:=dU (fun _ _ _ hh=>by cases hh) (by simp only[l4];first|rfl|(cases T tt<;>rfl))
theorem BT {tt:Nat} {m i:Operand} {ok:Bool} : pj T Γ N F ⟨dst,.lookup tt m i ok,ty,pos,af,gd⟩ ops l ws Q t h e=xb T Γ N F (ze (T tt) fun τ=>iN T τ h (ev t m) (ev t i) ok) dst ops l ws Q t h e:=dT (fun _ _ _ hh=>by cases hh) (by simp only[l4];first|rfl|(cases T tt<;>rfl))
theorem BW {tt:Nat} {m i:Operand} {ok:Bool} : pk T Γ N F ⟨dst,.lookup tt m i ok,ty,pos,af,gd⟩ ops l ws Q t h e fs=xc T Γ N F (ze (T tt) fun τ=>iN T τ h (ev t m) (ev t i) ok) dst (bW ⟨dst,.lookup tt m i ok,ty,pos,af,gd⟩ (ev t)) ops l ws Q t h e fs:=dU (fun _ _ _ hh=>by cases hh) (by simp only[l4];first|rfl|(cases T tt<;>rfl))
theorem vO {tt:Nat} {m i x:Operand} : pj T Γ N F ⟨dst,.mapUpdate tt m i x,ty,pos,af,gd⟩ ops l ws Q t h e=xb T Γ N F (ze (T tt) fun τ=>dC T τ h (ev t m) (ev t i) (ev t x)) dst ops l ws Q t h e:=dT (fun _ _ _ hh=>by cases hh) (by simp only[l4];first|rfl|(cases T tt<;>rfl))
theorem vS {tt:Nat} {m i x:Operand} : pk T Γ N F ⟨dst,.mapUpdate tt m i x,ty,pos,af,gd⟩ ops l ws Q t h e fs=xc T Γ N F (ze (T tt) fun τ=>dC T τ h (ev t m) (ev t i) (ev t x)) dst (bW ⟨dst,.mapUpdate tt m i x,ty,pos,af,gd⟩ (ev t)) ops l ws Q t h e fs:=dU (fun _ _ _ hh=>by cases hh) (by simp only[l4];first|rfl|(cases T tt<;>rfl))
theorem BS {tt:Nat} {m i x:Operand} : pj T Γ N F ⟨dst,.insert tt m i x,ty,pos,af,gd⟩ ops l ws Q t h e=xb T Γ N F (ze (T tt) fun τ=>dC T τ h (ev t m) (ev t i) (ev t x)) dst ops l ws Q t h e:=dT (fun _ _ _ hh=>by cases hh) (by simp only[l4];first|rfl|(cases T tt<;>rfl))
theorem BV {tt:Nat} {m i x:Operand} : pk T Γ N F ⟨dst,.insert tt m i x,ty,pos,af,gd⟩ ops l ws Q t h e fs=xc T Γ N F (ze (T tt) fun τ=>dC T τ h (ev t m) (ev t i) (ev t x)) dst (bW ⟨dst,.insert tt m i x,ty,pos,af,gd⟩ (ev t)) ops l ws Q t h e fs:=dU (fun _ _ _ hh=>by cases hh) (by simp only[l4];first|rfl|(cases T tt<;>rfl))
theorem OQ {tt d:Nat} {x:Operand} : pj T Γ N F ⟨some d,.box tt x,ty,pos,af,gd⟩ ops l ws Q t h e=xb T Γ N F (WU (ez h (ev t x)) h tt d e) (some d) ops l ws Q t h e:=dT (fun _ _ _ hh=>by cases hh) (by simp only[l4];first|rfl|(cases ez h (ev t x)<;>rfl))
theorem OR {tt d:Nat} {x:Operand} : pk T Γ N F ⟨some d,.box tt x,ty,pos,af,gd⟩ ops l ws Q t h e fs=xc T Γ N F (WU (ez h (ev t x)) h tt d e) (some d) (bW ⟨some d,.box tt x,ty,pos,af,gd⟩ (ev t)) ops l ws Q t h e fs:=dU (fun _ _ _ hh=>by cases hh) (by simp only[l4];first|rfl|(cases ez h (ev t x)<;>rfl))
theorem zE {a b:Nat} {x:Operand} : pj T Γ N F ⟨dst,.convert a b x,ty,pos,af,gd⟩ ops l ws Q t h e=xb T Γ N F (Ss (T b) (T a) (ev t x)) dst ops l ws Q t h e:=dT (fun _ _ _ hh=>by cases hh) rfl
theorem zI {a b:Nat} {x:Operand} : pk T Γ N F ⟨dst,.convert a b x,ty,pos,af,gd⟩ ops l ws Q t h e fs=xc T Γ N F (Ss (T b) (T a) (ev t x)) dst (bW ⟨dst,.convert a b x,ty,pos,af,gd⟩ (ev t)) ops l ws Q t h e fs:=dU (fun _ _ _ hh=>by cases hh) rfl
theorem zF {x:Nat} {i:Nat} : pj T Γ N F ⟨dst,.extract (.tmp x) i,ty,pos,af,gd⟩ ops l ws Q t h e=xb T Γ N F (Vj (t x) i) dst ops l ws Q t h e:=dT (fun _ _ _ hh=>by cases hh) rfl
theorem zJ {x:Nat} {i:Nat} : pk T Γ N F ⟨dst,.extract (.tmp x) i,ty,pos,af,gd⟩ ops l ws Q t h e fs=xc T Γ N F (Vj (t x) i) dst (bW ⟨dst,.extract (.tmp x) i,ty,pos,af,gd⟩ (ev t)) ops l ws Q t h e fs:=dU (fun _ _ _ hh=>by cases hh) rfl
theorem Jg {x:Operand} {aai:List Operand} {tys:Array Nat} : pj T Γ N F ⟨dst,.call ⟨.value x,aai.toArray,tys⟩,ty,pos,af,gd⟩ ops l ws Q t h e=xb T Γ N F (gM Γ h e dst (ev t x) (aai.map (ev t))) dst ops l ws Q t h e:=dT (fun _ _ _ hh=>by cases hh) rfl
theorem Jm {x:Operand} {aai:List Operand} {tys:Array Nat} : pk T Γ N F ⟨dst,.call ⟨.value x,aai.toArray,tys⟩,ty,pos,af,gd⟩ ops l ws Q t h e fs=xc T Γ N F (gM Γ h e dst (ev t x) (aai.map (ev t))) dst (bW ⟨dst,.call ⟨.value x,aai.toArray,tys⟩,ty,pos,af,gd⟩ (ev t)) ops l ws Q t h e fs:=dU (fun _ _ _ hh=>by cases hh) rfl
theorem zD {x:Builtin} {aai:List Operand} {tys:List Nat} : pj T Γ N F ⟨dst,.call ⟨.builtin x,aai.toArray,tys.toArray⟩,ty,pos,af,gd⟩ ops l ws Q t h e=xb T Γ N F (cv T h e dst x tys (aai.map (ev t))) dst ops l ws Q t h e:=dT (fun _ _ _ hh=>by cases hh) rfl
theorem zH {x:Builtin} {aai:List Operand} {tys:List Nat} : pk T Γ N F ⟨dst,.call ⟨.builtin x,aai.toArray,tys.toArray⟩,ty,pos,af,gd⟩ ops l ws Q t h e fs=xc T Γ N F (cv T h e dst x tys (aai.map (ev t))) dst (bW ⟨dst,.call ⟨.builtin x,aai.toArray,tys.toArray⟩,ty,pos,af,gd⟩ (ev t)) ops l ws Q t h e fs:=dU (fun _ _ _ hh=>by cases hh) rfl
theorem bI {o:Array Oper} {A:Prop} (h1:B3 o fs=true) (h2:A):B3 o fs=true∧A:=⟨h1,h2⟩
theorem aj {b:Bool} {g:Nat} {x y:Code} (h1:b=true→da T Γ N F (.code x::ws) Q .normal (er t g (.bool true)) h e) (h2:b=false→da T Γ N F (.code y::ws) Q .normal (er t g (.bool false)) h e):Im T Γ N F (.bool b) g x y ws Q t h e:=by rw[Rl];exact⟨h1,h2⟩
theorem bJ {b:Bool} {g:Nat} {o:Oper} (h1:b=true→pj T Γ N F o ops l ws Q (er t g (.bool true)) h e) (h2:b=false→lq T Γ N F ops l ws Q (eR (er t g (.bool false)) o.dst .skp) h e):vJ T Γ N F (.bool b) g true o ops l ws Q t h e:=by rw[Rm];exact⟨h1,h2⟩
theorem aU {b:Bool} {g:Nat} {o:Oper} (h1:b=true→lq T Γ N F ops l ws Q (eR (er t g (.bool true)) o.dst .skp) h e) (h2:b=false→pj T Γ N F o ops l ws Q (er t g (.bool false)) h e):vJ T Γ N F (.bool b) g false o ops l ws Q t h e:=by rw[NU];exact⟨h1,h2⟩
theorem mq {b:Bool} {g:Nat} {o:Oper} (h1:b=true→pk T Γ N F o ops l ws Q (er t g (.bool true)) h e fs) (h2:b=false→lr T Γ N F ops l ws Q (eR (er t g (.bool false)) o.dst .skp) h e (fs++[⟨[],true⟩])):vK T Γ N F (.bool b) g true o ops l ws Q t h e fs:=by rw[Rn];exact⟨h1,h2⟩
theorem LW {b:Bool} {g:Nat} {o:Oper} (h1:b=true→lr T Γ N F ops l ws Q (eR (er t g (.bool true)) o.dst .skp) h e (fs++[⟨[],true⟩])) (h2:b=false→pk T Γ N F o ops l ws Q (er t g (.bool false)) h e fs):vK T Γ N F (.bool b) g false o ops l ws Q t h e fs:=by rw[NV];exact⟨h1,h2⟩
def Vi (mode:Mode) (T:Nat→Option Ty) (lent:Option (D×Row)) (rs:List ResultVar) (r:RK×Option Row):Kt:=fun x t h e=>W0 mode T lent rs x t h e r
theorem zT {mode:Mode} {lent:Option (D×Row)} {rs:List ResultVar} {r:RK×Option Row} : Vi mode T lent rs r .normal t h e=(gW mode T lent rs ⟨t,h,e⟩=some r):=Eq.trans rfl rfl
theorem dq {mode:Mode} {lent:Option (D×Row)} {rs:List ResultVar} {r:RK×Option Row} : Vi mode T lent rs r .ret t h e=(gW mode T lent rs ⟨t,h,e⟩=some r):=Eq.trans rfl rfl
theorem av {mode:Mode} {fn:Func} {c:Code} {n:Nat} {rs:List ResultVar} {args:List D} {r:RK×Option Row} (hb:fn.body=some c) (hn:fn.ntmps=n) (hr:fn.results=rs.toArray) (hw:da T Γ n F [.code c] (Vi mode T none rs r) .normal (Mi args) Ww 0) (hpk:n≤1000000:=by exact Nat.le_of_ble_eq_true rfl):aQ mode T Γ F fn none args=some r:=by
 refine UP ?_ (by rw[hn];exact hpk)
 unfold ZT
 rw[hb,hn,hr]
 exact hw
def Ys (r:Row) (i:Nat):Option Row:=if i=0 then some r else none
theorem Lp (r:Row) (i:Nat):Ys r i=if i=0 then some r else none:=Eq.trans rfl rfl
theorem oW {mode:Mode} {fn:Func} {c:Code} {n:Nat} {rs:List ResultVar} {d0:D} {ty:Nat} {cells:List D} {fz lst:Bool} {args:List D} {r:RK×Option Row} (hb:fn.body=some c) (hn:fn.ntmps=n) (hr:fn.results=rs.toArray)
  (hw:da T Γ n F [.code c] (Vi mode T (some (d0,⟨0,ty,cells,fz,lst,false⟩)) rs r) .normal (Mi (d0::args)) (Ys ⟨0,ty,cells,fz,lst,false⟩) 1) (hpk:n≤1000000:=by exact Nat.le_of_ble_eq_true rfl):aQ mode T Γ F fn (some (d0,⟨0,ty,cells,fz,lst,false⟩)) args=some r:=by
 refine UP ?_ (by rw[hn];exact hpk)
 unfold ZT
 rw[hb,hn,hr]
 exact hw
end
end Go.Proofs.YtpkahnkoecbndaaGreatDoor.Am
namespace Go.Proofs.YtpkahnkoecbndaaGreatDoor.P
open Go.RowKit
set_option linter.unusedSimpArgs false
set_option linter.unusedVariables false
def FU:Nat:=1000000000000000000000000
def mz {σ ρ:Type} (body:σ→Option (σ⊕ρ)):Nat→σ→Option ρ
 | 0,_=>none
 | n+1,s =>
  match body s with
  | some (.inl s')=>mz body n s'
  | some (.inr r)=>some r
  | none=>none
def aV {σ ρ:Type} (body:σ→Option (σ⊕ρ)) (s:σ):Option ρ:=mz body FU s
theorem S9 {σ ρ:Type} {body:σ→Option (σ⊕ρ)} (I:σ→Prop) (μ:σ→Nat) (Q:ρ→Prop)
  (hstep:∀s,I s→(∃s',body s=some (.inl s')∧I s'∧μ s'<μ s)∨(∃r,body s=some (.inr r)∧Q r)):∀(n:Nat) (s:σ),I s→μ s<n→∃r,mz body n s=some r∧Q r:=by
 intro n
 induction n with
 | zero=>intro s _ h;omega
 | succ n ih =>
  intro s hI hμ
  rcases hstep s hI with⟨s',h1,h2,h3⟩|⟨r,h1,h2⟩
  ·obtain⟨r,h4,h5⟩:=ih s' h2 (by omega)
   exact⟨r,by simp only[mz,h1];exact h4,h5⟩
  ·exact⟨r,by simp only[mz,h1],h2⟩
theorem fU {σ ρ:Type} {body:σ→Option (σ⊕ρ)} (I:σ→Prop) (μ:σ→Nat) (Q:ρ→Prop) {s:σ} (hI:I s) (hμ:μ s<FU)
  (hstep:∀s,I s→(∃s',body s=some (.inl s')∧I s'∧μ s'<μ s)∨(∃r,body s=some (.inr r)∧Q r)):∃r,aV body s=some r∧Q r:=S9 I μ Q hstep FU s hI hμ
def idx {α:Type} (l:List α) (i:Int):Option α:=if 0≤i∧i<l.length then l[i.toNat]? else none
def VH (s:ByteArray) (i:Int):Option Int:=if 0≤i then (s[i.toNat]?).map fun b=>(b.toNat:Int) else none
def DA {α:Type} (l:List α) (a b:Int):Option (List α):=if 0≤a∧a≤b∧b≤l.length then some ((l.drop a.toNat).take (b.toNat-a.toNat)) else none
def Ir {α:Type} (bytes:Nat) (n c:Int) (z:α):Option (List α):=if 0≤n∧n≤c∧c≤maxLen∧c.toNat*bytes≤140737488355328 then some (List.replicate n.toNat z) else none
def iG {α:Type} (bytes:Nat) (l m:List α):Option (List α):=if l.length+m.length≤maxLen∧(l.length+m.length)*bytes≤140737488355328 then some (l++m) else none
def yL (k:IntKind) (x y:Int):Option Int:=if y=0 then none else some (k.wrap (x.tdiv y))
def vG (_:IntKind) (x y:Int):Option Int:=if y=0 then none else some (x.tmod y)
def EH (k:IntKind) (x y:Int):Option Int:=if y<0 then none else some (k.wrap (x*2 ^ (min y.toNat k.bits)))
def xa (k:IntKind) (x y:Int):Option Int:=if y<0 then none else some (x.fdiv (2 ^ (min y.toNat k.bits)))
def jK (op:BinOp) (k:IntKind) (x y:Int):Int :=
 let a:=BitVec.ofInt k.bits x
 let b:=BitVec.ofInt k.bits y
 match op with
 | .and=>k.wrap (a &&& b).toNat
 | .or=>k.wrap (a ||| b).toNat
 | .xor=>k.wrap (a ^^^ b).toNat
 | _=>k.wrap (a &&& ~~~b).toNat
def Vl {α:Type} : List (Int×α)→Int→Bool
 | [],_=>false
 | (k,_)::m,n=>k==n||Vl m n
def gF (l:List Int):List Int:=l.mergeSort fun x y=>decide (x≤y)
theorem fP (l:List Int):(gF l).length=l.length:=List.length_mergeSort l
theorem zk:gF []=[]:=by simp[gF]
theorem ae {α β:Type} {o:Option α} {f:α→Option β} {r:β} (h:o.bind f=some r):∃a,o=some a∧f a=some r:=by
 cases o with
 | none=>cases h
 | some a=>exact⟨a,rfl,h⟩
theorem X9 {α:Type} {b:Bool} {x y r:α} (hb:b=true) (h:(if b=true then x else y)=r):x=r:=by rw[if_pos hb]at h;exact h
theorem X8 {α:Type} {b:Bool} {x y r:α} (hb:b=false) (h:(if b=true then x else y)=r):y=r:=by rw[hb]at h;simpa using h
theorem ai {a b:Prop} (x:a) (y:b):a∧b:=⟨x,y⟩
theorem sp {α:Type} {b:Bool} {P1 P2 Q:Prop} {x y r:α} (k:(b=true→P1)→(b=false→P2)→Q) (h:(if b=true then x else y)=r) (h1:b=true→x=r→P1) (h2:b=false→y=r→P2):Q:=k (fun hb=>h1 hb (X9 hb h)) fun hb=>h2 hb (X8 hb h)
end Go.Proofs.YtpkahnkoecbndaaGreatDoor.P
namespace Go.Proofs.YtpkahnkoecbndaaGreatDoor.Am
open Go.RowKit Go.Proofs.YtpkahnkoecbndaaGreatDoor.P
set_option linter.unusedSimpArgs false
set_option linter.unusedVariables false
structure jX (α:Type) where
 cells:α→List D
 size:Nat
 len:∀x,(cells x).length=size
 pos:0<size
 inj:∀x y,cells x=cells y→x=y
def ab {α:Type} (e:jX α):List α→List D
 | []=>[]
 | x::l=>e.cells x++ab e l
section
variable {α β:Type} (e:jX α)
theorem xD:ab e []=[]:=rfl
theorem aP (x:α) (l:List α):ab e (x::l)=e.cells x++ab e l:=rfl
theorem gq:∀l m:List α,ab e (l++m)=ab e l++ab e m
 | [],m=>rfl
 | x::l,m=>by rw[List.cons_append,aP,aP,gq l m,List.append_assoc]
theorem cQ:∀l:List α,(ab e l).length=l.length*e.size
 | []=>by simp[ab]
 | x::l=>by rw[aP,List.length_append,cQ l,e.len,List.length_cons,Nat.succ_mul];omega
theorem uI:∀(l:List α) (i:Nat),(ab e l).drop (i*e.size)=ab e (l.drop i)
 | l,0=>by simp
 | [],i+1=>by simp[ab]
 | x::l,i+1=>by
  rw[aP,List.drop_succ_cons,← uI l i,List.drop_append,e.len,List.drop_eq_nil_of_le (by rw[e.len,Nat.succ_mul];omega),List.nil_append]
  congr 1
  rw[Nat.succ_mul];omega
theorem fN:∀(l:List α) (i:Nat),(ab e l).take (i*e.size)=ab e (l.take i)
 | l,0=>by simp[ab]
 | [],i+1=>by simp[ab]
 | x::l,i+1=>by
  rw[aP,List.take_succ_cons,aP,List.take_append,e.len,List.take_of_length_le (by rw[e.len,Nat.succ_mul];omega),← fN l i]
  congr 2
  rw[Nat.succ_mul];omega
theorem tH:∀l m:List α,ab e l=ab e m→l=m
 | [],[],_=>rfl
 | [],y::m,h=>by
  have:=congrArg List.length h
  have hp:=e.pos
  rw[aP,List.length_append,e.len]at this
  simp[ab]at this
  omega
 | x::l,[],h=>by
  have:=congrArg List.length h
  have hp:=e.pos
  rw[aP,List.length_append,e.len]at this
  simp[ab]at this
  omega
 | x::l,y::m,h=>by
  rw[aP,aP]at h
  obtain⟨h1,h2⟩:=List.append_inj h (by rw[e.len,e.len])
  rw[e.inj _ _ h1,tH l m h2]
theorem Cc:∀(n:Nat) (x:α),oT n (e.cells x)=ab e (List.replicate n x)
 | 0,x=>by simp[oT,ab]
 | n+1,x=>by rw[List.replicate_succ,aP,← Cc n x];simp[oT,List.replicate_succ]
end
def eI (k:IntKind):jX Int:=⟨fun n=>[.int k n],1,fun _=>rfl,by decide,fun x y h=>by simpa using h⟩
def gP:jX Bool:=⟨fun n=>[.bool n],1,fun _=>rfl,by decide,fun x y h=>by simpa using h⟩
def fX:jX ByteArray:=⟨fun n=>[.str n],1,fun _=>rfl,by decide,fun x y h=>by simpa using h⟩
def qG {α:Type} (e:jX α):jX (List α):=⟨fun l=>[.sl false false l.length (ab e l)],1,fun _=>rfl,by decide,fun x y h=>by
 simp only[List.cons.injEq,D.sl.injEq,true_and,and_true]at h
 exact tH e _ _ h.2⟩
def kQ {α β:Type} (e:jX α) (f:jX β):jX (α×β):=⟨fun x=>e.cells x.1++f.cells x.2,e.size+f.size,fun x=>by rw[List.length_append,e.len,f.len],Nat.lt_of_lt_of_le e.pos (Nat.le_add_right _ _),fun x y h=>by
 obtain⟨h1,h2⟩:=List.append_inj h (by rw[e.len,e.len])
 exact Prod.ext (e.inj _ _ h1) (f.inj _ _ h2)⟩
def AJ {α β:Type} (e:jX β) (f:α→β) (hf:∀x y,f x=f y→x=y):jX α:=⟨fun x=>e.cells (f x),e.size,fun x=>e.len _,e.pos,fun x y h=>hf _ _ (e.inj _ _ h)⟩
structure Arg (α:Type) where
 d:α→D
 inj:∀x y,d x=d y→x=y
def aI (k:IntKind):Arg Int:=⟨fun n =>.int k n,fun x y h=>by simpa using h⟩
def XT:Arg Bool:=⟨fun n =>.bool n,fun x y h=>by simpa using h⟩
def UY:Arg ByteArray:=⟨fun n =>.str n,fun x y h=>by simpa using h⟩
def iE {α:Type} (e:jX α):Arg (List α):=⟨fun l =>.sl false false l.length (ab e l),fun x y h=>by
 simp only[D.sl.injEq,true_and]at h
 exact tH e _ _ h.2⟩
def cJ {α:Type} (e:jX α):Arg α:=⟨fun x =>.agg (e.cells x),fun x y h=>e.inj _ _ (by simpa using h)⟩
theorem Zv (k:IntKind) (n:Int):(aI k).d n=.int k n:=Eq.trans rfl rfl
theorem WN {α:Type} (e:jX α) (x:α):(cJ e).d x=.agg (e.cells x):=Eq.trans rfl rfl
theorem xw (k:IntKind) (n:Int):(eI k).cells n=[.int k n]:=Eq.trans rfl rfl
theorem zN (n:Bool):gP.cells n=[.bool n]:=Eq.trans rfl rfl
theorem B5 (n:ByteArray):fX.cells n=[.str n]:=Eq.trans rfl rfl
theorem yO {α:Type} (e:jX α) (l:List α):(qG e).cells l=[.sl false false l.length (ab e l)]:=Eq.trans rfl rfl
structure mP (α:Type) where
 ds:α→List D
 inj:∀x y,ds x=ds y→x=y
def UR:mP Unit:=⟨fun _=>[],fun _ _ _=>rfl⟩
def dJ {α:Type} (a:Arg α):mP α:=⟨fun x=>[a.d x],fun x y h=>a.inj _ _ (by simpa using h)⟩
def ec {α β:Type} (a:Arg α) (b:mP β):mP (α×β):=⟨fun x=>a.d x.1::b.ds x.2,fun x y h=>by
 simp only[List.cons.injEq]at h
 exact Prod.ext (a.inj _ _ h.1) (b.inj _ _ h.2)⟩
noncomputable def eL {α β:Type} (A:mP α) (F:α→Option β) (R:β→RK):Option (D×Row)→List D→Option (RK×Option Row):=fun lent ds =>
 match lent with
 | none=>open Classical in if h:∃a,A.ds a=ds then (F (Classical.choose h)).map fun r=>(R r,none) else none
 | some _=>none
theorem aK {α β:Type} (A:mP α) (F:α→Option β) (R:β→RK) (a:α):eL A F R none (A.ds a)=(F a).map fun r=>(R r,none):=by
 have h:∃b,A.ds b=A.ds a:=⟨a,rfl⟩
 simp only[eL]
 rw[dif_pos h,A.inj _ _ (Classical.choose_spec h)]
theorem qp {α β:Type} {A:mP α} {F:α→Option β} {R:β→RK} {lent:Option (D×Row)} {ds:List D} {rk:RK} {out:Option Row} (h:eL A F R lent ds=some (rk,out)):lent=none∧out=none∧∃a r,ds=A.ds a∧F a=some r∧rk=R r:=by
 unfold eL at h
 split at h
 ·split at h
  ·rename_i he
   rw[Option.map_eq_some_iff]at h
   obtain⟨r,h1,h2⟩:=h
   simp only[Prod.mk.injEq]at h2
   obtain⟨rfl,rfl⟩:=h2
   exact⟨rfl,rfl,_,r,(Classical.choose_spec he).symm,h1,rfl⟩
  ·cases h
 ·cases h
structure bH (P:Program) (f:FuncId) (G:Option (D×Row)→List D→Option (RK×Option Row)):Prop where
 calls:∀lent aai rk out,G lent aai=some (rk,out)→pS P f lent aai rk out
 callable:iF P f
theorem bH.of {P:Program} {T:Nat→Option Ty} {Γ:Env} (hT:lC P T) (hΓ:bN P Γ) (hm:P.follows .mixedOrders=true) {α β:Type} {A:mP α} {F:α→Option β} {R:β→RK} {mode:Mode} {f:FuncId} {fn:Func} (hf:P.funcs[f]? = some fn) (hok:(match fn.body with|some c=>codeOk c|none=>true)=true)
  (hc:(fn.name == "runtime.NumGoroutine")=false∧fn.body.isNone=false) (hn:∀a,(A.ds a).length≤fn.ntmps) (h:∀a r,F a=some r→aQ mode T Γ FU fn none (A.ds a)=some (R r,none)):bH P f (eL A F R) where
 calls lent aai rk out hg:=by
  obtain⟨rfl,rfl,a,r,rfl,hr,rfl⟩:=qp hg
  exact kD hT hΓ hm hf hok (hn a) rfl (h a r hr)
 callable:=⟨fn,hf,hc⟩
theorem bN.add {P:Program} {Γ:Env} (hΓ:bN P Γ) {f:Nat} {G:Option (D×Row)→List D→Option (RK×Option Row)} (h:bH P f G) (l:Bool):bN P (Am.ext Γ f l G):=hΓ.ext h.calls h.callable
section
variable {T:Nat→Option Ty} {Γ:Env} {N e:Nat} {ws:List W} {Q:Kt} {t:Nat→D} {h:Nat→Option Row}
def LK {σ ρ:Type} (Rel:σ→(Nat→D)→(Nat→Option Row)→Nat→Prop) (RelX:ρ→Ex→(Nat→D)→(Nat→Option Row)→Nat→Prop) (c:σ⊕ρ):Kt:=fun x t h e =>
 match x with
 | .normal=>∃s',c=.inl s'∧Rel s' t h e
 | x=>∃o,c=.inr o∧RelX o x t h e
theorem jB {σ ρ:Type} {Rel:σ→(Nat→D)→(Nat→Option Row)→Nat→Prop} {RelX:ρ→Ex→(Nat→D)→(Nat→Option Row)→Nat→Prop} {s':σ} (k:Rel s' t h e):LK Rel RelX (.inl s') .normal t h e:=⟨s',rfl,k⟩
theorem kH {σ ρ:Type} {Rel:σ→(Nat→D)→(Nat→Option Row)→Nat→Prop} {RelX:ρ→Ex→(Nat→D)→(Nat→Option Row)→Nat→Prop} {o:ρ} {n:Nat} (k:RelX o (.exit n) t h e):LK Rel RelX (.inr o) (.exit n) t h e:=⟨o,rfl,k⟩
theorem yZ {σ ρ:Type} {Rel:σ→(Nat→D)→(Nat→Option Row)→Nat→Prop} {RelX:ρ→Ex→(Nat→D)→(Nat→Option Row)→Nat→Prop} {o:ρ} (k:RelX o .ret t h e):LK Rel RelX (.inr o) .ret t h e:=⟨o,rfl,k⟩
theorem aA {σ ρ:Type} {body:σ→Option (σ⊕ρ)} {b:Code} (Rel:σ→(Nat→D)→(Nat→Option Row)→Nat→Prop) (RelX:ρ→Ex→(Nat→D)→(Nat→Option Row)→Nat→Prop) {s0:σ} {out:ρ} (hL:aV body s0=some out) (h0:Rel s0 t h e)
  (hstep:∀s t h e,Rel s t h e→∀c,body s=some c→da T Γ N FU [.code b] (LK Rel RelX c) .normal t h e)
  (hexit:∀x t h e,RelX out x t h e→da T Γ N FU ws Q x t h e):Ps T Γ N FU b ws Q t h e:=by
 have key:∀(n:Nat) (s:σ) (t:Nat→D) (h:Nat→Option Row) (e:Nat),Rel s t h e→mz body n s=some out→∃x s',iter (ik T Γ N FU b) n ⟨t,h,e⟩=some (x,s')∧da T Γ N FU ws Q x s'.t s'.h s'.e:=by
  intro n
  induction n with
  | zero=>intro s t h e _ hi;cases hi
  | succ n ih =>
   intro s t h e hR hi
   simp only[mz]at hi
   cases hb:body s with
   | none=>rw[hb]at hi;cases hi
   | some c =>
    rw[hb]at hi
    obtain⟨x,s1,h1,h2⟩:=UO _ _ _ _ _ (show L8 T Γ N FU b t h e (LK Rel RelX c) from hstep s t h e hR c hb)
    simp only[iter,h1]
    cases x with
    | normal =>
     obtain⟨s',rfl,h4⟩:=h2
     exact ih s' s1.t s1.h s1.e h4 hi
    | exit m =>
     obtain⟨o,rfl,h4⟩:=h2
     simp only[Option.some.injEq]at hi
     subst hi
     exact⟨_,_,rfl,hexit _ _ _ _ h4⟩
    | ret =>
     obtain⟨o,rfl,h4⟩:=h2
     simp only[Option.some.injEq]at hi
     subst hi
     exact⟨_,_,rfl,hexit _ _ _ _ h4⟩
 exact key FU s0 t h e h0 hL
theorem ym {d:D} {g:Nat} {A B A' B':(Nat→D)→Prop} (hk:N3 d t g A B) (h1:∀t,A t→A' t) (h2:∀t,B t→B' t):N3 d t g A' B':=by
 cases d with
 | bool b=>exact⟨fun hb=>h1 _ (hk.1 hb),fun hb=>h2 _ (hk.2 hb)⟩
 | _=>exact hk
theorem DR {d:D} {g:Nat} {A B S A' B' S':(Nat→D)→Prop} (hk:wpS d t g A B S) (h1:∀t,A t→A' t) (h2:∀t,B t→B' t) (h3:∀t,S t→S' t):wpS d t g A' B' S':=by
 unfold wpS at hk ⊢
 split at hk
 ·exact h3 _ hk
 ·exact ym hk h1 h2
theorem CU {α:Type} {x:Option α} {K K':α→Prop} (hk:tX x K) (h1:∀a,K a→K' a):tX x K':=by
 cases x with
 | none=>exact hk
 | some a=>exact h1 a hk
theorem L5 {ops:List Oper} {gd:Option (Nat×Bool)} {A B A' B':(Nat→D)→Prop} (hk:UL ops t gd A B) (h1:∀t,A t→A' t) (h2:∀t,B t→B' t):UL ops t gd A' B':=by
 unfold UL at hk ⊢
 split
 ·exact h1 _ hk
 ·rename_i j want
  refine CU hk fun g hg=>DR hg ?_ ?_ h2
  ·intro t ht;cases want<;>simp_all
  ·intro t ht;cases want<;>simp_all
theorem yo {o:Oper} {K K':(Nat→D)→dS→Prop} (hk:UJ T Γ e o t h K) (h1:∀t E,K t E→K' t E):UJ T Γ e o t h K':=by
 unfold UJ at hk ⊢
 split
 ·rename_i ho
  rw[ho]at hk
  exact ym hk (fun _ h=>h1 _ _ h) (fun _ h=>h1 _ _ h)
 ·rename_i hne
  split at hk
  ·rename_i c a b ho;exact absurd ho (hne _ _ _)
  ·exact CU hk (fun _ h=>h1 _ _ h)
theorem vt {ops:List Oper} {K K':(Nat→D)→(Nat→Option Row)→Prop} (h1:∀t h,K t h→K' t h):∀(l:List Oper) (t:Nat→D) (h:Nat→Option Row),Du T Γ N e ops l t h K→Du T Γ N e ops l t h K'
 | [],t,h,hk=>h1 _ _ hk
 | o::l,t,h,hk=>by
  unfold Du at hk ⊢
  exact⟨hk.1,L5 hk.2 (fun t ht=>yo ht fun t E hE=>vt h1 l _ _ hE) (fun t ht=>vt h1 l _ _ ht)⟩
theorem vp {ops:List Oper} {K K':(Nat→D)→(Nat→Option Row)→List kI→Prop} (h1:∀t h fs,K t h fs→K' t h fs):∀(l:List Oper) (t:Nat→D) (h:Nat→Option Row) (fs:List kI),runK T Γ N e ops l t h fs K→runK T Γ N e ops l t h fs K'
 | [],t,h,fs,hk=>h1 _ _ _ hk
 | o::l,t,h,fs,hk=>by
  unfold runK at hk ⊢
  exact⟨hk.1,L5 hk.2 (fun t ht=>yo ht fun t E hE=>vp h1 l _ _ _ hE) (fun t ht=>vp h1 l _ _ _ ht)⟩
theorem UN {ops:Array Oper} {draw:Bool} {K K':(Nat→D)→(Nat→Option Row)→Prop} (hk:Zi T Γ N ops draw t h e K) (h1:∀t h,K t h→K' t h):Zi T Γ N ops draw t h e K':=by
 unfold Zi at hk ⊢
 cases draw with
 | true=>exact vp (fun t h fs hh=>⟨hh.1,h1 _ _ hh.2⟩) _ _ _ _ hk
 | false=>exact vt h1 _ _ _ hk
theorem Ru {F:Nat} : ∀(c:Code) (t:Nat→D) (h:Nat→Option Row) (e:Nat) (K K':Kt),L8 T Γ N F c t h e K→(∀x t h e,K x t h e→K' x t h e)→L8 T Γ N F c t h e K':=by
 intro c
 induction c with
 | skip=>intro t h e K K' hk hm;exact hm _ _ _ _ hk
 | region i ops draw=>intro t h e K K' hk hm;exact UN hk fun t h hh=>hm _ _ _ _ hh
 | seq a b iha ihb =>
  intro t h e K K' hk hm
  refine iha _ _ _ _ _ hk fun x t h e hx =>?_
  cases x with
  | normal=>exact ihb _ _ _ _ _ hx hm
  | exit n=>exact hm _ _ _ _ hx
  | ret=>exact hm _ _ _ _ hx
 | cond c x y ihx ihy =>
  intro t h e K K' hk hm
  unfold L8 at hk ⊢
  cases c with
  | tmp g=>exact ym hk (fun t ht=>ihx _ _ _ _ _ ht hm) (fun t ht=>ihy _ _ _ _ _ ht hm)
  | const v =>
   cases v with
   | bool b =>
    cases b with
    | true=>exact ihx _ _ _ _ _ hk hm
    | false=>exact ihy _ _ _ _ _ hk hm
   | _=>exact hk
  | _=>exact hk
 | block id b ih =>
  intro t h e K K' hk hm
  refine ih _ _ _ _ _ hk fun x t h e hx =>?_
  cases x with
  | normal=>exact hm _ _ _ _ hx
  | ret=>exact hm _ _ _ _ hx
  | exit n =>
   unfold Sa at hx ⊢
   simp only at hx ⊢
   split at hx
   ·rename_i hn;rw[if_pos hn];exact hm _ _ _ _ hx
   ·rename_i hn;rw[if_neg hn];exact hm _ _ _ _ hx
 | loop b ih =>
  intro t h e K K' hk hm
  obtain⟨x,s,h1,h2⟩:=hk
  exact⟨x,s,h1,hm _ _ _ _ h2⟩
 | exit id=>intro t h e K K' hk hm;exact hm _ _ _ _ hk
 | ret=>intro t h e K K' hk hm;exact hm _ _ _ _ hk
 | _=>intro t h e K K' hk;exact hk.elim
def CK {σ:Type} (J:σ→(Nat→D)→(Nat→Option Row)→Nat→Prop) (P:σ→Prop) (R:Kt):Kt:=fun x t h e =>
 match x with
 | .normal=>∃s,P s∧J s t h e
 | x=>R x t h e
theorem ak {σ:Type} {J:σ→(Nat→D)→(Nat→Option Row)→Nat→Prop} {P:σ→Prop} {R:Kt} : CK J P R .normal t h e = ∃s,P s∧J s t h e:=Eq.trans rfl rfl
end
section
variable {h:Nat→Option Row}
theorem E6 {k:IntKind} {n:Int} : canon (.int k n)=.int k n:=Eq.trans rfl rfl
theorem BM {b:Bool} : canon (.bool b)=.bool b:=Eq.trans rfl rfl
theorem E8 {b:ByteArray} : canon (.str b)=.str b:=Eq.trans rfl rfl
theorem IT {a b:Bool} {n:Nat} {xs:List D} : canon (.sl a b n xs)=.sl false false n xs:=Eq.trans rfl rfl
theorem BJ {k:IntKind} {n:Int} : fw (.int k n)=.int k n:=Eq.trans rfl rfl
theorem zB {b:Bool} : fw (.bool b)=.bool b:=Eq.trans rfl rfl
theorem BL {b:ByteArray} : fw (.str b)=.str b:=Eq.trans rfl rfl
theorem E5 {a b:Bool} {n:Nat} {xs:List D} : fw (.sl a b n xs)=.sl false false n xs:=Eq.trans rfl rfl
theorem BI {xs:List D} : fw (.agg xs)=.agg (xs.map canon):=Eq.trans rfl rfl
def U9 (x s o n:Nat):Option Row→Option (D×List Nat)
 | some r=>if o+n*s≤r.cells.length then some (.sl false false n ((r.cells.drop o).take (n*s)),[x]) else none
 | none=>none
theorem I4 {x s o n:Nat} {r:Row} : U9 x s o n (some r)=if o+n*s≤r.cells.length then some (.sl false false n ((r.cells.drop o).take (n*s)),[x]) else none:=Eq.trans rfl rfl
def XY (x o:Nat):Option Row→Option (D×List Nat)
 | some r=>if o≤r.cells.length then some (.ip (r.cells.drop o),[x]) else none
 | none=>none
theorem I9 {x o:Nat} {r:Row} : XY x o (some r)=if o≤r.cells.length then some (.ip (r.cells.drop o),[x]) else none:=Eq.trans rfl rfl
theorem I0 {k:IntKind} {n:Int} : bY h (.int k n)=some (.int k n,[]):=Eq.trans rfl rfl
theorem Fa {b:Bool} : bY h (.bool b)=some (.bool b,[]):=Eq.trans rfl rfl
theorem I3 {b:ByteArray} : bY h (.str b)=some (.str b,[]):=Eq.trans rfl rfl
theorem OL {a b:Bool} {n:Nat} {xs:List D} : bY h (.sl a b n xs)=some (.sl false false n xs,[]):=Eq.trans rfl rfl
theorem IW {xs:List D} : bY h (.agg xs)=some (.agg (xs.map canon),[]):=Eq.trans rfl rfl
theorem OJ {xs:List D} : bY h (.ip xs)=some (.ip xs,[]):=Eq.trans rfl rfl
theorem OI {f:Nat} : bY h (.fn f)=some (.fn f,[]):=Eq.trans rfl rfl
theorem IY {x v s o n:Nat} : bY h (.buf x v s o n)=U9 x s o n (live h x v):=by
 simp only[bY,aT,dA]
 cases live h x v with
 | none=>rfl
 | some r=>by_cases hc:o+n*s≤r.cells.length<;>simp[U9,hc,canon]
theorem I2 {x v o:Nat} : bY h (.ptr x v o)=XY x o (live h x v):=by
 simp only[bY,aT]
 cases live h x v with
 | none=>rfl
 | some r=>simp only[XY]
theorem Sw {k:IntKind} {n:Int} : ez h (.int k n)=some ([.int k n],[]):=Eq.trans rfl rfl
theorem OP {b:Bool} : ez h (.bool b)=some ([.bool b],[]):=Eq.trans rfl rfl
theorem Sx {b:ByteArray} : ez h (.str b)=some ([.str b],[]):=Eq.trans rfl rfl
theorem V5 {a b:Bool} {n:Nat} {xs:List D} : ez h (.sl a b n xs)=some ([.sl a b n xs],[]):=Eq.trans rfl rfl
theorem Su {xs:List D} : ez h (.agg xs)=some (xs,[]):=Eq.trans rfl rfl
def ZC:Option (D×List Nat)→Option (List D×List Nat)
 | some (d,fr)=>some ([d],fr)
 | none=>none
theorem Jf {d:D} {fr:List Nat} : ZC (some (d,fr))=some ([d],fr):=Eq.trans rfl rfl
theorem Sv {x v s o n:Nat} : ez h (.buf x v s o n)=ZC (U9 x s o n (live h x v)):=by
 simp only[ez,dA]
 cases live h x v with
 | none=>rfl
 | some r=>by_cases hc:o+n*s≤r.cells.length<;>simp[U9,ZC,hc]
def Zy (h:Nat→Option Row):Option (D×List Nat)→Option dS
 | some (d,fr)=>some ⟨d,iY h fr⟩
 | none=>none
theorem I6 {d:D} {fr:List Nat} : Zy h (some (d,fr))=some ⟨d,iY h fr⟩:=Eq.trans rfl rfl
theorem Og {x v s o n:Nat} : gQ h (.buf x v s o n)=Zy h (U9 x s o n (live h x v)):=by
 simp only[gQ,oz,dA]
 cases live h x v with
 | none=>rfl
 | some r=>by_cases hc:o+n*s≤r.cells.length<;>simp[U9,Zy,hc,canon,fw]
variable {Γ:Env} {f g e:Nat} {l:Bool} {G:Option (D×Row)→List D→Option (RK×Option Row)} {lent:Option (D×Row)} {aai:List D} {dst:Option Nat} {fr:List Nat}
theorem FM:(Am.ext Γ f l G).lends g=if g=f then l else Γ.lends g:=Eq.trans rfl rfl
theorem OY:(Am.ext Γ f l G).sem g lent aai=if g=f then G lent aai else Γ.sem g lent aai:=Eq.trans rfl rfl
theorem OX {d:Nat} : (Am.ext Γ f l G).own d=Γ.own d:=Eq.trans rfl rfl
theorem Ga {d:Nat} : aS.own d=true:=Eq.trans rfl rfl
theorem Kf {d i:Nat} : (Am.keep d Γ).own i=(i != d&&Γ.own i):=Eq.trans rfl rfl
theorem CH {d i:Nat} : (Am.keep d Γ).lends i=Γ.lends i:=Eq.trans rfl rfl
theorem Kg {d i:Nat} : (Am.keep d Γ).sem i lent aai=Γ.sem i lent aai:=Eq.trans rfl rfl
def DX (lends:Bool) (Γ:Env) (h:Nat→Option Row) (e:Nat) (dst:Option Nat) (g:Nat) (args:List D):Option dS :=
 if lends then
  match args with
  | .buf x v s o n::rest=>so Γ h e dst g x v (.buf 0 0 s o n) rest
  | .ptr x v o::rest=>so Γ h e dst g x v (.ptr 0 0 o) rest
  | _=>none
 else tq Γ h e dst g args
def U7 (p:Option (Nat×Nat×Nat)) (Γ:Env) (h:Nat→Option Row) (e:Nat) (dst:Option Nat) (g:Nat) (args:List D):Option dS :=
 match p with
 | some p=>sn h e dst p args
 | none =>
  match Γ.grw g with
  | some p=>sk h p args
  | none=>DX (Γ.lends g) Γ h e dst g args
def WX (p:Option Grow) (Γ:Env) (h:Nat→Option Row) (e:Nat) (dst:Option Nat) (g:Nat) (args:List D):Option dS :=
 match p with
 | some p=>sk h p args
 | none=>DX (Γ.lends g) Γ h e dst g args
theorem E2 {args:List D} : U7 none Γ h e dst g args=WX (Γ.grw g) Γ h e dst g args:=Eq.trans rfl rfl
theorem E0 {args:List D} : WX none Γ h e dst g args=DX (Γ.lends g) Γ h e dst g args:=Eq.trans rfl rfl
theorem E1 {p:Grow} {args:List D} : WX (some p) Γ h e dst g args=sk h p args:=Eq.trans rfl rfl
theorem OV {f:Nat} {l:Bool} {G:Option (D×Row)→List D→Option (RK×Option Row)} : (Am.ext Γ f l G).grw g=Γ.grw g:=Eq.trans rfl rfl
theorem Kd {d:Nat} : (Am.keep d Γ).grw g=Γ.grw g:=Eq.trans rfl rfl
theorem J4 {d y:Nat} : (Am.vX d y Γ).grw g=Γ.grw g:=Eq.trans rfl rfl
theorem J8 {f:Nat} {p:Nat×Nat×Nat} : (Am.CD f p Γ).grw g=Γ.grw g:=Eq.trans rfl rfl
theorem F8:aS.grw g=none:=Eq.trans rfl rfl
theorem JY {f:Nat} {p:Grow} : (Am.yX f p Γ).grw g=if g=f then some p else Γ.grw g:=Eq.trans rfl rfl
theorem JZ {f:Nat} {p:Grow} : (Am.yX f p Γ).ins g=Γ.ins g:=Eq.trans rfl rfl
theorem Cy {f:Nat} {p:Grow} : (Am.yX f p Γ).lends g=Γ.lends g:=Eq.trans rfl rfl
theorem J1 {f:Nat} {p:Grow} {l:Option (D×Row)} {aai:List D} : (Am.yX f p Γ).sem g l aai=Γ.sem g l aai:=Eq.trans rfl rfl
theorem J0 {f:Nat} {p:Grow} {d:Nat} : (Am.yX f p Γ).own d=Γ.own d:=Eq.trans rfl rfl
theorem FY {f:Nat} {p:Grow} {d:Nat} : (Am.yX f p Γ).hint d=Γ.hint d:=Eq.trans rfl rfl
def Zp (v:Nat):Option Row→Option (Row×Nat×Nat×Nat)
 | some r=>if r.v=v∧r.mp=true then (match r.cells with | [.ph y s n]=>some (r,y,s,n)|_=>none) else none
 | none=>none
theorem Kr {x v:Nat} : kx h x v=Zp v (h x):=by
 unfold kx Zp
 cases h x<;>rfl
theorem Kv {v ty y s n:Nat} {fz lst:Bool} : Zp v (some ⟨v,ty,[.ph y s n],fz,lst,true⟩)=some (⟨v,ty,[.ph y s n],fz,lst,true⟩,y,s,n):=by simp[Zp]
def Sc (p:Grow) (y k:Nat) (rest:List D):Option (Row×Nat×Nat×Nat)→Option Row→Option dS
 | some (ry,k',s,n),some r =>
   if k'=k∧k=PK+y∧ry.fz=false∧r.mp=false∧r.fz=false∧r.lst=true∧s=p.k∧r.ty=p.ty∧r.cells.length=n*p.k∧(n+1)*p.bytes≤140737488355328 then
    match p.sem r.cells rest with
    | some cs=>some ⟨.int .i64 (n:Int),[(k,some ⟨r.v,p.ty,r.cells++cs,false,true,false⟩),(y,some ⟨ry.v,ry.ty,[.ph k p.k (n+1)],false,false,true⟩)]⟩
    | none=>none
   else none
 | _,_=>none
theorem OA {p:Grow} {y v k:Nat} {rest:List D} : sk h p (.pm y v k::rest)=Sc p y k rest (kx h y v) (h k):=Eq.trans rfl rfl
def V4 (k y v ty e' ty' k' n:Nat) (cells:List D):Option (List D)→Option dS
 | some cs=>some ⟨.int .i64 (n:Int),[(k,some ⟨e',ty',cells++cs,false,true,false⟩),(y,some ⟨v,ty,[.ph k k' (n+1)],false,false,true⟩)]⟩
 | none=>none
theorem BA {ty' k' by_:Nat} {sem:List D→List D→Option (List D)} {y k:Nat} {rest:List D} {v ty s n e' tyr:Nat} {cells:List D} : Sc ⟨ty',k',by_,sem⟩ y k rest (some (⟨v,ty,[.ph k s n],false,false,true⟩,k,s,n)) (some ⟨e',tyr,cells,false,true,false⟩) =
  if k=1000000+y∧s=k'∧tyr=ty'∧cells.length=n*k'∧(n+1)*by_≤140737488355328 then V4 k y v ty e' ty' k' n cells (sem cells rest) else none:=by
 simp only[Sc,PK,true_and]
 cases sem cells rest<;>rfl
theorem BB {k y v ty e' ty' k' n:Nat} {cells cs:List D} : V4 k y v ty e' ty' k' n cells (some cs)=some ⟨.int .i64 (n:Int),[(k,some ⟨e',ty',cells++cs,false,true,false⟩),(y,some ⟨v,ty,[.ph k k' (n+1)],false,false,true⟩)]⟩:=Eq.trans rfl rfl
theorem E3 {p:Nat×Nat×Nat} {args:List D} : U7 (some p) Γ h e dst g args=sn h e dst p args:=Eq.trans rfl rfl
theorem OW {f:Nat} {l:Bool} {G:Option (D×Row)→List D→Option (RK×Option Row)} : (Am.ext Γ f l G).ins g=Γ.ins g:=Eq.trans rfl rfl
theorem Ke {d:Nat} : (Am.keep d Γ).ins g=Γ.ins g:=Eq.trans rfl rfl
theorem J5 {d y:Nat} : (Am.vX d y Γ).ins g=Γ.ins g:=Eq.trans rfl rfl
theorem F9:aS.ins g=none:=Eq.trans rfl rfl
theorem J9 {f:Nat} {p:Nat×Nat×Nat} : (Am.CD f p Γ).ins g=if g=f then some p else Γ.ins g:=Eq.trans rfl rfl
theorem CE {f:Nat} {p:Nat×Nat×Nat} : (Am.CD f p Γ).lends g=Γ.lends g:=Eq.trans rfl rfl
theorem Kb {f:Nat} {p:Nat×Nat×Nat} {l:Option (D×Row)} {aai:List D} : (Am.CD f p Γ).sem g l aai=Γ.sem g l aai:=Eq.trans rfl rfl
theorem Ka {f:Nat} {p:Nat×Nat×Nat} {d:Nat} : (Am.CD f p Γ).own d=Γ.own d:=Eq.trans rfl rfl
theorem F1 {f:Nat} {p:Nat×Nat×Nat} {d:Nat} : (Am.CD f p Γ).hint d=Γ.hint d:=Eq.trans rfl rfl
def Sd (ty k by_ x y s s' o o' n m:Nat) (i:Int) (e:Nat) (d:Nat):Option Row→Option Row→Option dS
 | some r,some r' =>
   if r.fz=false∧r'.fz=false∧r.lst=true∧r'.lst=true∧x≠y∧s=k∧s'=k∧r.ty=ty∧r'.ty=ty∧o=0∧o'=0∧r.cells.length=n*k∧r'.cells.length=m*k∧0≤i∧i≤n∧0<m∧(n+m)*by_≤140737488355328 then
    some ⟨.buf d e k 0 (n+m),[(y,none),(x,none),(d,some ⟨e,ty,r.cells.take (i.toNat*k)++(r'.cells++r.cells.drop (i.toNat*k)),false,true,false⟩)]⟩
   else none
 | _,_=>none
theorem OB {ty k by_ x v s o n y v' s' o' m d:Nat} {i:Int} : sn h e (some d) (ty,k,by_) [.buf x v s o n,.int .i64 i,.buf y v' s' o' m]=Sd ty k by_ x y s s' o o' n m i e d (live h x v) (live h y v'):=by
 simp only[sn,Sd]
 cases live h x v with
 | none=>rfl
 | some r=>cases live h y v'<;>rfl
theorem BC {ty k by_ x y s s' o o' n m : Nat} {i : Int} {d : Nat} {r r' : Row} : Sd ty k by_ x y s s' o o' n m i e d (some r) (some r') = if r.fz = false ∧ r'.fz = false ∧ r.lst = true ∧ r'.lst = true ∧ x ≠ y ∧ s = k ∧ s' = k ∧ r.ty = ty ∧ r'.ty = ty ∧ o = 0 ∧ o' = 0 ∧ r.cells.length = n * k ∧ r'.cells.length = m * k ∧ 0 ≤ i ∧ i ≤ n ∧ 0 < m ∧ (n + m) * by_ ≤ 140737488355328 then
        some ⟨.buf d e k 0 (n + m), [(y, none), (x, none), (d, some ⟨e, ty, r.cells.take (i.toNat * k) ++ (r'.cells ++ r.cells.drop (i.toNat * k)), false, true, false⟩)]⟩
      else none := Eq.trans rfl rfl
theorem OC {args:List D} : gM Γ h e dst (.fn g) args=U7 (Γ.ins g) Γ h e dst g args:=by
 simp only[gM,U7,DX]
 cases Γ.ins g with
 | none=>cases Γ.grw g<;>rfl
 | some p=>rfl
def Qf (h:Nat→Option Row) (e:Nat) (dst:Option Nat) (fr:List Nat):Option (RK×Option Row)→Option dS
 | some (.clean r,_)=>some ⟨r,if fY r then [] else iY h fr⟩
 | some (.fresh ty s n cells,_) =>
  match dst with
  | some d=>if fr.contains d=false then some ⟨.buf d e s 0 n,(if oH cells then [] else iY h fr)++[(d,some ⟨e,ty,cells,false,true,false⟩)]⟩ else none
  | none=>none
 | _=>none
def WW (Γ:Env) (h:Nat→Option Row) (e:Nat) (dst:Option Nat) (g:Nat):Option (List D×List Nat)→Option dS
 | some (aai,fr)=>Qf h e dst fr (Γ.sem g none aai)
 | none=>none
theorem E4 {args:List D} : DX false Γ h e dst g args=WW Γ h e dst g (cn h args):=by
 simp only[DX,Bool.false_eq_true,if_false,tq,WW]
 cases cn h args with
 | none=>rfl
 | some p =>
  obtain⟨aai,fr⟩:=p
  simp only
  cases hs:Γ.sem g none aai with
  | none=>rfl
  | some q =>
   obtain⟨rk,o⟩:=q
   cases rk<;>rfl
theorem EZ:WW Γ h e dst g (some (aai,fr))=Qf h e dst fr (Γ.sem g none aai):=Eq.trans rfl rfl
def SR (h:Nat→Option Row) (fr:List Nat):Bool→List (Nat×Option Row)
 | true=>[]
 | false=>iY h fr
theorem FV:SR h fr true=[]:=Eq.trans rfl rfl
theorem Co:SR h fr false=iY h fr:=Eq.trans rfl rfl
theorem JH {b:Bool} : SR h [] b=[]:=by cases b<;>rfl
theorem BG {r:D} {o:Option Row} : Qf h e dst fr (some (.clean r,o))=some ⟨r,SR h fr (fY r)⟩:=by
 simp only[Qf]
 cases fY r<;>rfl
theorem OZ:iY h []=[]:=Eq.trans rfl rfl
theorem JI {x:Nat} : iY h (x::fr)=(x,(h x).map qm)::iY h fr:=Eq.trans rfl rfl
theorem SV {v ty:Nat} {cells:List D} {lst mp:Bool} : qm ⟨v,ty,cells,true,lst,mp⟩=⟨v,ty,cells,true,lst,mp⟩:=Eq.trans rfl rfl
theorem SS {v ty:Nat} {cells:List D} {lst mp:Bool} : qm ⟨v,ty,cells,false,lst,mp⟩=⟨v,ty,cells,true,true,mp⟩:=Eq.trans rfl rfl
theorem Fb:cn h []=some ([],[]):=Eq.trans rfl rfl
def Zx (p:Option (D×List Nat)) (q:Option (List D×List Nat)):Option (List D×List Nat) :=
 match p,q with
 | some (d',fr),some (ds',fr')=>some (d'::ds',fr++fr')
 | _,_=>none
theorem IF {d:D} {fr fr':List Nat} {ds:List D} : Zx (some (d,fr)) (some (ds,fr'))=some (d::ds,fr++fr'):=Eq.trans rfl rfl
theorem BN {d:D} {ds:List D} : cn h (d::ds)=Zx (bY h d) (cn h ds):=by
 simp only[cn]
 cases bY h d with
 | none=>rfl
 | some p=>cases cn h ds<;>rfl
variable {T:Nat→Option Ty} {s:St} {rs:List ResultVar} {r:ResultVar}
theorem Lm:w8 T s []=some ([],[]):=Eq.trans rfl rfl
theorem GC:w8 T s (r::rs)=Zx (Lk T s r) (w8 T s rs):=by
 simp only[w8]
 cases Lk T s r with
 | none=>rfl
 | some p=>cases w8 T s rs<;>rfl
theorem Ll {t:Nat→D} {i:Nat} : Lk T ⟨t,h,e⟩ (.tmp i)=bY h (t i):=Eq.trans rfl rfl
def Xh (T:Nat→Option Ty) (h:Nat→Option Row) (d:D) (τ:Option Ty):Option (D×List Nat) :=
 match τ,d with
 | some τ,.ptr x v o=>match dB τ h (.ptr x v o) with|some E=>some (fw E.val,[])|none=>none
 | _,_=>none
theorem GA {t:Nat→D} {i ty:Nat} : Lk T ⟨t,h,e⟩ (.cell i ty)=Xh T h (t i) (T ty):=Eq.trans rfl rfl
def Xi:Option dS→Option (D×List Nat)
 | some E=>some (fw E.val,[])
 | none=>none
theorem GB {d:D} {w:List (Nat×Option Row)} : Xi (some ⟨d,w⟩)=some (fw d,[]):=Eq.trans rfl rfl
theorem Lj {τ:Ty} {x v o:Nat} : Xh T h (.ptr x v o) (some τ)=Xi (dB τ h (.ptr x v o)):=by
 simp only[Xh,Xi]
def WZ (p:Option (List D×List Nat)):Option (RK×Option Row) :=
 match p with
 | some (ds,_)=>some (.clean (pZ ds),none)
 | none=>none
theorem FE {ds:List D} {fr:List Nat} : WZ (some (ds,fr))=some (.clean (pZ ds),none):=Eq.trans rfl rfl
theorem Cd:gW .clean T none rs s=WZ (w8 T s rs):=by
 simp only[gW,tI,kV,Vy,WZ]
 cases w8 T s rs<;>rfl
theorem BH {ty sz n d:Nat} {cells:List D} {o:Option Row} : Qf h e (some d) fr (some (.fresh ty sz n cells,o))=if fr.contains d=false then some ⟨.buf d e sz 0 n,SR h fr (oH cells)++[(d,some ⟨e,ty,cells,false,true,false⟩)]⟩ else none:=by
 simp only[Qf]
 cases oH cells<;>rfl
theorem yR {k:IntKind} : ∀l:List Int,oH (ab (eI k) l)=true
 | []=>rfl
 | x::l=>by
  have:=yR (k:=k) l
  simp only[aP,xw,List.cons_append,List.nil_append,oH,fY,this,Bool.and_self]
theorem Ce {ty sz i:Nat} {t:Nat→D} : gW (.fresh ty sz) T none [.tmp i] ⟨t,h,e⟩=lK ty sz h (t i):=Eq.trans rfl rfl
theorem Cf {i:Nat} {t:Nat→D} : gW .tight T none [.tmp i] ⟨t,h,e⟩=uK (t i):=Eq.trans rfl rfl
theorem SM {nl tg:Bool} {n:Nat} {xs:List D} : uK (.sl nl tg n xs)=some (.clean (.sl nl tg n xs),none):=Eq.trans rfl rfl
theorem OT {ty sz x v o n:Nat} : lK ty sz h (.buf x v sz o n)=uJ ty sz o n (live h x v):=by simp[lK]
theorem SK {ty sz:Nat} {nl tg:Bool} {xs:List D} : lK ty sz h (.sl nl tg 0 xs)=if tg=true then some (.fresh ty sz 0 [],none) else none:=Eq.trans rfl rfl
theorem Jw {ty sz o n:Nat} {r:Row} : uJ ty sz o n (some r)=if r.fz=false∧r.ty=ty∧o+n*sz≤r.cells.length then some (.fresh ty sz n ((r.cells.drop o).take (n*sz)),none) else none:=Eq.trans rfl rfl
theorem Dm {d:D} : pZ [d]=d:=Eq.trans rfl rfl
theorem Dn {d d':D} {ds:List D} : pZ (d::d'::ds)=.tup (d::d'::ds):=Eq.trans rfl rfl
end
theorem OS (k:IntKind):(eI k).size=1:=Eq.trans rfl rfl
theorem B4:gP.size=1:=Eq.trans rfl rfl
theorem FC:fX.size=1:=Eq.trans rfl rfl
theorem Jv {α:Type} (e:jX α):(qG e).size=1:=Eq.trans rfl rfl
section
variable {α:Type} (E:jX α) {l m:List α} {x x' z:α} {i a b n c:Int} {B:Nat}
theorem tR (h:P.idx l i=some x):0≤i∧i<l.length:=by
 unfold P.idx at h
 split at h
 ·assumption
 ·cases h
theorem MO (h:P.idx l i=some x):l[i.toNat]? = some x:=by
 unfold P.idx at h
 split at h
 ·exact h
 ·cases h
theorem xN (h:P.idx l i=some x):(ab E l).drop (i.toNat*E.size)=E.cells x++ab E (l.drop (i.toNat+1)):=by
 have h':=MO h
 obtain⟨hi,rfl⟩:=List.getElem?_eq_some_iff.1 h'
 rw[uI,List.drop_eq_getElem_cons hi]
 rfl
theorem vb (h:P.idx l i=some x):i.toNat*E.size+E.size≤l.length*E.size:=by
 have h':=tR h
 have:i.toNat+1≤l.length:=by omega
 have:=Nat.mul_le_mul_right E.size this
 rwa [Nat.succ_mul]at this
theorem bG (h:P.idx l i=some x):(0≤i∧i<l.length)∧(ab E l).drop (i.toNat*E.size)=E.cells x++ab E (l.drop (i.toNat+1))∧i.toNat*E.size+E.size≤l.length*E.size:=⟨tR h,xN E h,vb E h⟩
theorem TO:∀(l:List α) (i:Nat) (x:α),l[i]? = some x→∀x',ab E (l.set i x')=(ab E l).take (i*E.size)++E.cells x'++(ab E l).drop (i*E.size+E.size)
 | [],i,x,h,x'=>by simp at h
 | y::l,0,x,h,x'=>by
  rw[List.set_cons_zero,aP,aP,Nat.zero_mul,List.take_zero,List.nil_append,Nat.zero_add,List.drop_append,E.len,Nat.sub_self,List.drop_zero,List.drop_eq_nil_of_le (by rw[E.len];exact Nat.le_refl _),List.nil_append]
 | y::l,i+1,x,h,x'=>by
  have ih:=TO l i x (by simpa using h) x'
  rw[List.set_cons_succ,aP,aP,ih,Nat.succ_mul]
  have hy:=E.len y
  have e1:(E.cells y++ab E l).take (i*E.size+E.size)=E.cells y++(ab E l).take (i*E.size):=by rw[List.take_append,hy,List.take_of_length_le (by omega),Nat.add_sub_cancel]
  have e2:(E.cells y++ab E l).drop (i*E.size+E.size+E.size)=(ab E l).drop (i*E.size+E.size):=by
   rw[List.drop_append,hy,List.drop_eq_nil_of_le (by omega),List.nil_append,Nat.add_sub_cancel]
  rw[e1,e2]
  simp only[List.append_assoc]
theorem iz (fo:Nat) (cs:List D) (h:P.idx l i=some x) (hc:E.cells x'=putCells (E.cells x) fo cs) (hfo:fo+cs.length≤E.size):putCells (ab E l) (i.toNat*E.size+fo) cs=ab E (l.set i.toNat x'):=by
 have h':=MO h
 rw[TO E l i.toNat x h' x',hc]
 have he:=xN E h
 have hf:=vb E h
 have hl:=cQ E l
 have hx:=E.len x
 have hsplit:ab E l=(ab E l).take (i.toNat*E.size)++(E.cells x++(ab E l).drop (i.toNat*E.size+E.size)):=by
  have h1:=List.take_append_drop (i.toNat*E.size) (ab E l)
  have h2:(ab E l).drop (i.toNat*E.size+E.size)=ab E (l.drop (i.toNat+1)):=by
   rw[← List.drop_drop,he,List.drop_append,hx,Nat.sub_self,List.drop_zero,List.drop_eq_nil_of_le (by omega),List.nil_append]
  rw[h2,← he,h1]
 generalize (ab E l).drop (i.toNat*E.size+E.size)=r at *
 generalize ht:(ab E l).take (i.toNat*E.size)=p at *
 have hp:p.length=i.toNat*E.size:=by rw[← ht];simp;omega
 unfold putCells
 rw[hsplit]
 have e1:(p++(E.cells x++r)).take (i.toNat*E.size+fo)=p++(E.cells x).take fo:=by
  rw[List.take_append,hp,List.take_of_length_le (by omega),Nat.add_sub_cancel_left,List.take_append_of_le_length (by omega)]
 have e2:(p++(E.cells x++r)).drop (i.toNat*E.size+fo+cs.length)=(E.cells x).drop (fo+cs.length)++r:=by
  rw[Nat.add_assoc,List.drop_append,hp,List.drop_eq_nil_of_le (by omega),Nat.add_sub_cancel_left,List.nil_append,List.drop_append_of_le_length (by omega)]
 rw[e1,e2]
 simp only[List.append_assoc]
theorem TH (h:P.idx l i=some x):putCells (ab E l) (i.toNat*E.size) (E.cells x')=ab E (l.set i.toNat x'):=by
 have:=iz E (x':=x') 0 (E.cells x') h (by unfold putCells;simp[E.len]) (by rw[E.len];omega)
 simpa using this
theorem KV (h:Ir B n c z=some m):m=List.replicate n.toNat z∧0≤n∧n≤c∧c≤maxLen∧c.toNat*B≤140737488355328:=by
 unfold Ir at h
 split at h
 ·cases h;exact⟨rfl,by assumption⟩
 ·cases h
theorem mk_one (h:Ir B n n z=some m):0≤n∧n.toNat=m.length∧m.length≤maxLen∧oT m.length (E.cells z)=ab E m∧m.length*B≤140737488355328:=by
 obtain⟨rfl,h1,_,h3,h4⟩:=KV h
 refine⟨h1,by simp,by simp;omega,by rw[Cc];simp,by simpa using h4⟩
theorem Xc (h:Ir B n c z=some m):0≤n∧0≤c∧n.toNat=m.length∧oT m.length (E.cells z)=ab E m∧m.length≤c.toNat∧c.toNat≤maxLen∧c.toNat*B≤140737488355328:=by
 obtain⟨rfl,h1,h2,h3,h4⟩:=KV h
 refine⟨h1,by omega,by simp,by rw[Cc];simp,by simp;omega,by omega,h4⟩
theorem zj (h:DA l a b=some m):0≤a∧0≤b∧a.toNat≤b.toNat∧b.toNat≤l.length∧b.toNat-a.toNat=m.length∧(List.take (m.length*E.size) (List.drop (a.toNat*E.size) (ab E l))=ab E m):=by
 unfold DA at h
 split at h
 ·rename_i hc
  cases h
  have hl:((l.drop a.toNat).take (b.toNat-a.toNat)).length=b.toNat-a.toNat:=by simp;omega
  refine⟨hc.1,by omega,by omega,by omega,hl.symm,?_⟩
  rw[hl,uI,fN]
 ·cases h
theorem Xm (h:DA l a b=some m):0≤a∧0≤b∧(a.toNat≤b.toNat∧b.toNat≤l.length)∧b.toNat-a.toNat=m.length∧(List.take (m.length*E.size) (List.drop (a.toNat*E.size) (ab E l))=ab E m):=by
 obtain⟨h1,h2,h3,h4,h5,h6⟩:=zj E h
 exact⟨h1,h2,⟨h3,h4⟩,h5,h6⟩
theorem Xn (h:DA l a (l.length:Int)=some m):0≤a∧0≤a∧a.toNat≤l.length∧l.length-a.toNat=m.length∧(List.take (m.length*E.size) (List.drop (a.toNat*E.size) (ab E l))=ab E m):=by
 obtain⟨h1,h2,h3,h4,h5,h6⟩:=zj E h
 simp only[Int.toNat_natCast]at h3 h5
 exact⟨h1,h1,h3,h5,h6⟩
theorem DB (h:DA l 0 b=some m):0≤b∧0≤b∧m.length≤l.length∧b.toNat=m.length∧(List.take (m.length*E.size) (ab E l)=ab E m):=by
 obtain⟨h1,h2,h3,h4,h5,h6⟩:=zj E h
 have h5':b.toNat=m.length:=by simpa using h5
 refine⟨h2,h2,by omega,h5',by simpa using h6⟩
theorem yH {n:List α} (h:iG B l m=some n):n=l++m∧n.length≤maxLen∧n.length*B≤140737488355328:=by
 unfold iG at h
 split at h
 ·rename_i hc
  cases h
  exact⟨rfl,by rw[List.length_append];exact hc.1,by rw[List.length_append];exact hc.2⟩
 ·cases h
theorem fi {n:List α} (h:iG B l [x]=some n):l.length+1=n.length∧ab E l++E.cells x=ab E n∧n.length≤maxLen∧n.length*B≤140737488355328:=by
 obtain⟨rfl,h1,h2⟩:=yH h
 exact⟨by simp,by rw[gq];simp[ab],h1,h2⟩
theorem qU {n:List α} (h:iG B [] l=some n):n=l∧l.length≤maxLen∧l.length*B≤140737488355328:=by
 obtain⟨rfl,h1,h2⟩:=yH h
 exact⟨rfl,h1,h2⟩
theorem U1 {n:List α} (h:iG B l m=some n):l.length+m.length=n.length∧ab E l++ab E m=ab E n∧n.length≤maxLen∧n.length*B≤140737488355328:=by
 obtain⟨rfl,h1,h2⟩:=yH h
 exact⟨by simp,by rw[gq],h1,h2⟩
end
theorem rj {k:IntKind} {x y z:Int} (h:yL k x y=some z):¬y=0∧k.wrap (x.tdiv y)=z:=by
 unfold yL at h
 split at h
 ·cases h
 ·cases h;exact⟨by assumption,rfl⟩
theorem rL {k:IntKind} {x y z:Int} (h:vG k x y=some z):¬y=0∧x.tmod y=z:=by
 unfold vG at h
 split at h
 ·cases h
 ·cases h;exact⟨by assumption,rfl⟩
theorem Bb {k:IntKind} {x y z:Int} (h:EH k x y=some z):¬y<0∧k.wrap (x*2 ^ (min y.toNat k.bits))=z:=by
 unfold EH at h
 split at h
 ·cases h
 ·cases h;exact⟨by assumption,rfl⟩
theorem n9 {k:IntKind} {x y z:Int} (h:xa k x y=some z):¬y<0∧x.fdiv (2 ^ (min y.toNat k.bits))=z:=by
 unfold xa at h
 split at h
 ·cases h
 ·cases h;exact⟨by assumption,rfl⟩
theorem Oy (op:BinOp) (k:IntKind) (x y:Int):Bx op k x y=jK op k x y:=Eq.trans rfl rfl
theorem Pv {s:ByteArray} {i x:Int} (h:P.VH s i=some x):0≤i∧0≤i∧s[i.toNat]? = some (UInt8.ofNat x.toNat)∧((UInt8.ofNat x.toNat).toNat:Int)=x:=by
 unfold P.VH at h
 split at h
 ·rename_i hi
  rw[Option.map_eq_some_iff]at h
  obtain⟨b,h1,h2⟩:=h
  subst h2
  have:UInt8.ofNat (b.toNat:Int).toNat=b:=by simp
  exact⟨hi,hi,by rw[h1,this],by rw[this]⟩
 ·cases h
theorem pS.emp {P:Program} {f:FuncId} {rk:RK} {out:Option Row} (h1:pS P f none [.sl true true 0 []] rk out) (h2:pS P f none [.sl true false 0 []] rk out):pS P f none [.sl false false 0 []] rk out:=by
 intro w M vs hM ha
 have hd:=ha.2 0 _ rfl
 generalize hu:vs.getD 0 undef=u at hd
 cases hd with
 | sl A c nl tight n xs us k1 k2 k3 k4 k5 k6 k7 k8 =>
  cases A with
  | none =>
   refine h1 w M vs hM ⟨ha.1,fun j d hj =>?_,ha.tab⟩
   cases j with
   | zero=>cases hj;rw[hu];exact .sl none c true true 0 [] us k1 k2 (fun _=>⟨fun _=>⟨rfl,(k4 rfl).2⟩,fun h=>by cases h⟩) k4 (fun _=>(k4 rfl).2) k6 k7 k8
   | succ j=>simp at hj
  | some A =>
   refine h2 w M vs hM ⟨ha.1,fun j d hj =>?_,ha.tab⟩
   cases j with
   | zero=>cases hj;rw[hu];exact .sl (some A) c true false 0 [] us k1 k2 (fun _=>⟨(fun h=>by cases h),fun _ h=>by cases h⟩) k4 (fun h=>by cases h) k6 k7 k8
   | succ j=>simp at hj
theorem bH.Wp {P:Program} {T:Nat→Option Ty} {Γ:Env} (hT:lC P T) (hΓ:bN P Γ) (hm:P.follows .mixedOrders=true) {α β:Type} {E:jX α} {F:List α→Option β} {R:β→RK} {mode:Mode} {f:FuncId} {fn:Func} (hf:P.funcs[f]? = some fn) (hok:(match fn.body with|some c=>codeOk c|none=>true)=true)
  (hc:(fn.name == "runtime.NumGoroutine")=false∧fn.body.isNone=false) (hn:1≤fn.ntmps)
  (h0:∀r,F []=some r→aQ mode T Γ FU fn none [.sl true true 0 []]=some (R r,none))
  (h1:∀r,F []=some r→aQ mode T Γ FU fn none [.sl true false 0 []]=some (R r,none))
  (h2:∀l r,0<l.length→F l=some r→aQ mode T Γ FU fn none [.sl false false l.length (ab E l)]=some (R r,none)):bH P f (eL (dJ (iE E)) F R) where
 calls lent aai rk out hg:=by
  obtain⟨rfl,rfl,l,r,rfl,hr,rfl⟩:=qp hg
  cases l with
  | nil=>exact pS.emp (kD hT hΓ hm hf hok hn rfl (h0 r hr)) (kD hT hΓ hm hf hok hn rfl (h1 r hr))
  | cons x l=>exact kD hT hΓ hm hf hok hn rfl (h2 (x::l) r (by simp) hr)
 callable:=⟨fn,hf,hc⟩
theorem Z0:type_of% (ai @G1<|ai @Bz<|ai @GJ<|ai @Lt<|ai @Ls<|ai @GH<|ai @Dv<|ai @GI<|ai @bq<|ai @bj<|ai @sK<|ai @bF<|ai @we<|ai @An<|ai @Dy<|ai @GG<|ai @GQ<|ai @DK<|ai @Lq<|ai @GD<|ai @Dr<|ai @GR<|ai @DL<|ai @DM<|ai @Az<|ai @Lr<|ai @GF<|ai @Dt<|ai @GS<|ai @DN<|ai @DO<|ai @AA<|ai @LM<|ai @LN<|ai @Px<|ai @Py<|ai @C6<|ai @z8<|ai @C7<|ai @Aa<|ai @Jk<|ai @Jq<|ai @Jj<|ai @Jp<|ai @BR<|ai @BU<|ai @Fh<|ai @Fq<|ai @Jl<|ai @Jr<|ai @Jh<|@Jn):=⟨@G1,@Bz,@GJ,@Lt,@Ls,@GH,@Dv,@GI,@bq,@bj,@sK,@bF,@we,@An,@Dy,@GG,@GQ,@DK,@Lq,@GD,@Dr,@GR,@DL,@DM,@Az,@Lr,@GF,@Dt,@GS,@DN,@DO,@AA,@LM,@LN,@Px,@Py,@C6,@z8,@C7,@Aa,@Jk,@Jq,@Jj,@Jp,@BR,@BU,@Fh,@Fq,@Jl,@Jr,@Jh,@Jn⟩
theorem Z1:type_of% (ai @Fo<|ai @Fx<|ai @xt<|ai @xv<|ai @vL<|ai @vP<|ai @Fj<|ai @Ft<|ai @vM<|ai @vQ<|ai @Fk<|ai @Fu<|ai @Fl<|ai @Fv<|ai @Fi<|ai @Fs<|ai @tx<|ai @tz<|ai @vN<|ai @vR<|ai @Fg<|ai @Fp<|ai @OQ<|ai @OR<|ai @zE<|ai @zI<|ai @zF<|ai @zJ<|ai @Jg<|ai @Jm<|ai @zD<|ai @zH<|ai @K0<|ai @Ld<|ai @EX<|ai @zr<|ai @Ff<|ai @JD<|ai @B1<|ai @B0<|ai @CA<|ai @Cz<|ai @dr<|ai @zT<|ai @dq<|ai @rM<|ai @P5<|ai @IA<|ai @EP<|ai @EO<|ai @Gb<|@FO):=⟨@Fo,@Fx,@xt,@xv,@vL,@vP,@Fj,@Ft,@vM,@vQ,@Fk,@Fu,@Fl,@Fv,@Fi,@Fs,@tx,@tz,@vN,@vR,@Fg,@Fp,@OQ,@OR,@zE,@zI,@zF,@zJ,@Jg,@Jm,@zD,@zH,@K0,@Ld,@EX,@zr,@Ff,@JD,@B1,@B0,@CA,@Cz,@dr,@zT,@dq,@rM,@P5,@IA,@EP,@EO,@Gb,@FO⟩
theorem Z2:type_of% (ai @FP<|ai @As<|ai @DI<|ai @DH<|ai @Ay<|ai @uv<|ai @sN<|ai @Av<|ai @sO<|ai @Aw<|ai @sP<|ai @Ar<|ai @GN<|ai @wo<|ai @wq<|ai @Au<|ai @qE<|ai @Ax<|ai @DG<|ai @wm<|ai @yj<|ai @Pg<|ai @KZ<|ai @Gz<|ai @Gy<|ai @F3<|ai @On<|ai @IC<|ai @Ou<|ai @R7<|ai @Ot<|ai @R4<|ai @Ol<|ai @Ov<|ai @R3<|ai @A2<|ai @Ow<|ai @Om<|ai @ER<|ai @Bt<|ai @Oq<|ai @ES<|ai @E6<|ai @BM<|ai @E8<|ai @IT<|ai @BJ<|ai @zB<|ai @BL<|ai @E5<|ai @BI<|@I4):=⟨@FP,@As,@DI,@DH,@Ay,@uv,@sN,@Av,@sO,@Aw,@sP,@Ar,@GN,@wo,@wq,@Au,@qE,@Ax,@DG,@wm,@yj,@Pg,@KZ,@Gz,@Gy,@F3,@On,@IC,@Ou,@R7,@Ot,@R4,@Ol,@Ov,@R3,@A2,@Ow,@Om,@ER,@Bt,@Oq,@ES,@E6,@BM,@E8,@IT,@BJ,@zB,@BL,@E5,@BI,@I4⟩
theorem Z3:type_of% (ai @I9<|ai @I0<|ai @Fa<|ai @I3<|ai @OL<|ai @IW<|ai @OJ<|ai @OI<|ai @IY<|ai @I2<|ai @Sw<|ai @OP<|ai @Sx<|ai @V5<|ai @Su<|ai @Sv<|ai @Jf<|ai @FM<|ai @OY<|ai @OC<|ai @E4<|ai @EZ<|ai @BG<|ai @FV<|ai @Co<|ai @JH<|ai @OZ<|ai @JI<|ai @Fb<|ai @BN<|ai @IF<|ai @Lm<|ai @GC<|ai @Ll<|ai @GA<|ai @Lj<|ai @GB<|ai @Cd<|ai @FE<|ai @BH<|ai @yR<|ai @Ce<|ai @Cf<|ai @SM<|ai @OT<|ai @SK<|ai @Jw<|ai @Dm<|ai @Dn<|ai @Oy<|ai @xD<|@aP):=⟨@I9,@I0,@Fa,@I3,@OL,@IW,@OJ,@OI,@IY,@I2,@Sw,@OP,@Sx,@V5,@Su,@Sv,@Jf,@FM,@OY,@OC,@E4,@EZ,@BG,@FV,@Co,@JH,@OZ,@JI,@Fb,@BN,@IF,@Lm,@GC,@Ll,@GA,@Lj,@GB,@Cd,@FE,@BH,@yR,@Ce,@Cf,@SM,@OT,@SK,@Jw,@Dm,@Dn,@Oy,@xD,@aP⟩
theorem Z9:type_of% (And.intro (@LV)<|@LY):=⟨@LV,@LY⟩
theorem Z8:type_of% (ai @true_and<|ai @and_true<|ai @Bool.false_eq_true<|ai @List.map_cons.{0,0}<|ai @List.map_nil.{0,0}<|ai @List.drop_succ_cons.{0}<|ai @List.drop_zero.{0}<|ai @List.take_succ_cons.{0}<|ai @List.take_zero.{0}<|ai @List.length_cons.{0}<|ai @List.length_nil.{0}<|ai @List.contains_nil.{0}<|ai @List.nil_append.{0}<|ai @List.cons_append.{0}<|ai @List.append_nil.{0}<|ai @List.getElem?_cons_zero.{0}<|ai @List.getElem?_cons_succ.{0}<|ai @decide_true<|ai @decide_false<|ai @beq_self_eq_true.{0}<|ai @List.isEmpty_nil.{0}<|ai @List.isEmpty_cons.{0}<|ai @Option.map_none.{0,0}<|ai @Option.map_some.{0,0}<|ai @List.all_cons.{0}<|ai @List.all_nil.{0}<|ai @Option.isSome_some.{0}<|ai @Bool.and_true<|ai @Bool.true_and<|ai @Bool.false_and<|ai @Bool.and_self<|ai @Bool.not_true<|ai @Bool.not_false<|ai @and_self<|ai @Nat.zero_add<|ai @Nat.add_zero<|ai @Nat.zero_mul<|ai @Nat.sub_zero<|ai @Nat.zero_le<|ai @Nat.le_refl<|ai @Option.some.injEq.{0}<|ai @Nat.le_zero_eq<|ai @Nat.one_ne_zero<|ai @Bool.or_self<|ai @Bool.or_true<|ai @Bool.true_or<|ai @Bool.or_false<|ai @Bool.false_or<|@List.length_set.{0}):=⟨@true_and,@and_true,@Bool.false_eq_true,@List.map_cons.{0,0},@List.map_nil.{0,0},@List.drop_succ_cons.{0},@List.drop_zero.{0},@List.take_succ_cons.{0},@List.take_zero.{0},@List.length_cons.{0},@List.length_nil.{0},@List.contains_nil.{0},@List.nil_append.{0},@List.cons_append.{0},@List.append_nil.{0},@List.getElem?_cons_zero.{0},@List.getElem?_cons_succ.{0},@decide_true,@decide_false,@beq_self_eq_true.{0},@List.isEmpty_nil.{0},@List.isEmpty_cons.{0},@Option.map_none.{0,0},@Option.map_some.{0,0},@List.all_cons.{0},@List.all_nil.{0},@Option.isSome_some.{0},@Bool.and_true,@Bool.true_and,@Bool.false_and,@Bool.and_self,@Bool.not_true,@Bool.not_false,@and_self,@Nat.zero_add,@Nat.add_zero,@Nat.zero_mul,@Nat.sub_zero,@Nat.zero_le,@Nat.le_refl,@Option.some.injEq.{0},@Nat.le_zero_eq,@Nat.one_ne_zero,@Bool.or_self,@Bool.or_true,@Bool.true_or,@Bool.or_false,@Bool.false_or,@List.length_set.{0}⟩
theorem Z4:type_of% (ai @Dx<|ai @Dw<|ai @V3<|ai @ET<|ai @Bu<|ai @Oh<|ai @Iv<|ai @Oi<|ai @RV<|ai @Of<|ai @Og<|ai @I6<|ai @OX<|ai @Ga<|ai @Kf<|ai @CH<|@Kg):=⟨@Dx,@Dw,@V3,@ET,@Bu,@Oh,@Iv,@Oi,@RV,@Of,@Og,@I6,@OX,@Ga,@Kf,@CH,@Kg⟩
theorem vmu:type_of% (ai @wV.eq_1<|ai @wV.eq_2<|ai @ev.eq_1<|ai @ev.eq_2<|ai @ev.eq_3<|ai @ev.eq_4<|ai @qt.eq_1<|ai @qt.eq_2<|ai @qt.eq_3<|ai @qt.eq_4<|ai @qt.eq_5<|ai @qt.eq_6<|ai @eR.eq_1<|ai @eR.eq_2<|ai @yJ.eq_1<|ai @yJ.eq_2<|ai @yJ.eq_3<|ai @j7.eq_1<|ai @j7.eq_2<|ai @j7.eq_3<|ai @fD.eq_1<|ai @fD.eq_2<|ai @fD.eq_3<|ai @fD.eq_4<|ai @fD.eq_5<|ai @fD.eq_6<|ai @fD.eq_7<|ai @fD.eq_8<|ai @fD.eq_9<|ai @fD.eq_10<|ai @fD.eq_11<|ai @fD.eq_12<|ai @fD.eq_13<|ai @fD.eq_14<|ai @fD.eq_15<|ai @fD.eq_16<|ai @EI.eq_1<|ai @EI.eq_2<|ai @EI.eq_3<|ai @EI.eq_4<|ai @EI.eq_5<|ai @EI.eq_6<|ai @Vs.eq_1<|ai @bm.eq_1<|ai @bm.eq_2<|ai @dN.eq_1<|ai @dN.eq_2<|ai @dN.eq_3<|ai @dB.eq_1<|ai @dB.eq_2<|ai @dB.eq_3<|ai @live.eq_1<|ai @mB.eq_1<|ai @mB.eq_2<|ai @Ds.oY.eq_1<|ai @Ds.oY.eq_2<|ai @Ds.oY.eq_3<|ai @cv.eq_1<|ai @cv.eq_2<|ai @cv.eq_3<|ai @cv.eq_4<|ai @cv.eq_5<|ai @cv.eq_6<|ai @fY.eq_1<|ai @fY.eq_2<|ai @fY.eq_3<|ai @fY.eq_4<|ai @fY.eq_5<|ai @fY.eq_6<|ai @oH.eq_1<|ai @oH.eq_2<|ai @xO.eq_1<|ai @xO.eq_2<|ai @xO.eq_3<|ai @xO.eq_4<|ai @alive.eq_1<|ai @alive.eq_2<|ai @alive.eq_3<|ai @nm.eq_1<|ai @nm.eq_2<|ai @iO.eq_1<|ai @iO.eq_2<|ai @iO.eq_3<|ai @iO.eq_4<|ai @iO.eq_5<|ai @iO.eq_6<|ai @cP.eq_1<|ai @cP.eq_2<|ai @pH.eq_1<|ai @jh.eq_1<|ai @jh.eq_2<|ai @jh.eq_3<|ai @kR.eq_1<|ai @kR.eq_2<|ai @Gg.eq_1<|ai @bM.eq_1<|ai @bM.eq_2<|ai @bM.eq_3<|ai @bM.eq_4<|ai @fT.eq_1<|ai @fT.eq_2<|ai @fT.eq_3<|ai @cK.eq_1<|ai @cK.eq_2<|ai @cK.eq_3<|ai @cK.eq_4<|ai @cK.eq_5<|ai @cK.eq_6<|ai @eQ.eq_1<|ai @ib.eq_1<|ai @ib.eq_2<|ai @fieldAt.eq_1<|ai @dM.eq_1<|ai @pn.eq_1<|ai @iM.eq_1<|ai @content.eq_1<|ai @content.eq_2<|ai @content.eq_3<|ai @putCells.eq_1<|ai @Rw.eq_1<|ai @Rw.eq_2<|ai @Rw.eq_3<|ai @Rw.eq_4<|ai @Mu.eq_1<|ai @Mu.eq_2<|ai @Mu.eq_3<|ai @Mu.eq_4<|ai @Qt.eq_1<|ai @Qt.eq_2<|ai @Qt.eq_3<|ai @fk.eq_1<|ai @fk.eq_2<|ai @fk.eq_3<|ai @kindOk.eq_1<|ai @kindOk.eq_2<|ai @kindOk.eq_3<|ai @kindOk.eq_4<|ai @jR.eq_1<|ai @jR.eq_2<|ai @jR.eq_3<|ai @jR.eq_4<|ai @mN.eq_1<|ai @mN.eq_2<|ai @mN.eq_3<|ai @mN.eq_4<|ai @mN.eq_5<|ai @mN.eq_6<|ai @mN.eq_7<|ai @mN.eq_8<|ai @sc.eq_1<|ai @sc.eq_2<|ai @sc.eq_3<|ai @aY.eq_1<|ai @aY.eq_2<|ai @aY.eq_3<|ai @aY.eq_4<|ai @aY.eq_5<|ai @aY.eq_6<|ai @aY.eq_7<|ai @qq.eq_1<|ai @qq.eq_2<|ai @tn.eq_1<|ai @tn.eq_2<|ai @tn.eq_3<|@tn.eq_4):=⟨@wV.eq_1,@wV.eq_2,@ev.eq_1,@ev.eq_2,@ev.eq_3,@ev.eq_4,@qt.eq_1,@qt.eq_2,@qt.eq_3,@qt.eq_4,@qt.eq_5,@qt.eq_6,@eR.eq_1,@eR.eq_2,@yJ.eq_1,@yJ.eq_2,@yJ.eq_3,@j7.eq_1,@j7.eq_2,@j7.eq_3,@fD.eq_1,@fD.eq_2,@fD.eq_3,@fD.eq_4,@fD.eq_5,@fD.eq_6,@fD.eq_7,@fD.eq_8,@fD.eq_9,@fD.eq_10,@fD.eq_11,@fD.eq_12,@fD.eq_13,@fD.eq_14,@fD.eq_15,@fD.eq_16,@EI.eq_1,@EI.eq_2,@EI.eq_3,@EI.eq_4,@EI.eq_5,@EI.eq_6,@Vs.eq_1,@bm.eq_1,@bm.eq_2,@dN.eq_1,@dN.eq_2,@dN.eq_3,@dB.eq_1,@dB.eq_2,@dB.eq_3,@live.eq_1,@mB.eq_1,@mB.eq_2,@Ds.oY.eq_1,@Ds.oY.eq_2,@Ds.oY.eq_3,@cv.eq_1,@cv.eq_2,@cv.eq_3,@cv.eq_4,@cv.eq_5,@cv.eq_6,@fY.eq_1,@fY.eq_2,@fY.eq_3,@fY.eq_4,@fY.eq_5,@fY.eq_6,@oH.eq_1,@oH.eq_2,@xO.eq_1,@xO.eq_2,@xO.eq_3,@xO.eq_4,@alive.eq_1,@alive.eq_2,@alive.eq_3,@nm.eq_1,@nm.eq_2,@iO.eq_1,@iO.eq_2,@iO.eq_3,@iO.eq_4,@iO.eq_5,@iO.eq_6,@cP.eq_1,@cP.eq_2,@pH.eq_1,@jh.eq_1,@jh.eq_2,@jh.eq_3,@kR.eq_1,@kR.eq_2,@Gg.eq_1,@bM.eq_1,@bM.eq_2,@bM.eq_3,@bM.eq_4,@fT.eq_1,@fT.eq_2,@fT.eq_3,@cK.eq_1,@cK.eq_2,@cK.eq_3,@cK.eq_4,@cK.eq_5,@cK.eq_6,@eQ.eq_1,@ib.eq_1,@ib.eq_2,@fieldAt.eq_1,@dM.eq_1,@pn.eq_1,@iM.eq_1,@content.eq_1,@content.eq_2,@content.eq_3,@putCells.eq_1,@Rw.eq_1,@Rw.eq_2,@Rw.eq_3,@Rw.eq_4,@Mu.eq_1,@Mu.eq_2,@Mu.eq_3,@Mu.eq_4,@Qt.eq_1,@Qt.eq_2,@Qt.eq_3,@fk.eq_1,@fk.eq_2,@fk.eq_3,@kindOk.eq_1,@kindOk.eq_2,@kindOk.eq_3,@kindOk.eq_4,@jR.eq_1,@jR.eq_2,@jR.eq_3,@jR.eq_4,@mN.eq_1,@mN.eq_2,@mN.eq_3,@mN.eq_4,@mN.eq_5,@mN.eq_6,@mN.eq_7,@mN.eq_8,@sc.eq_1,@sc.eq_2,@sc.eq_3,@aY.eq_1,@aY.eq_2,@aY.eq_3,@aY.eq_4,@aY.eq_5,@aY.eq_6,@aY.eq_7,@qq.eq_1,@qq.eq_2,@tn.eq_1,@tn.eq_2,@tn.eq_3,@tn.eq_4⟩
theorem Y5:type_of% (ai @E2<|ai @E0<|ai @E1<|ai @OV<|ai @Kd<|ai @J4<|ai @J8<|ai @F8<|ai @JY<|ai @JZ<|ai @Cy<|ai @J1<|ai @J0<|ai @FY<|ai @Kr<|ai @Kv<|ai @OA<|ai @BA<|ai @BB<|ai @E3<|ai @OW<|ai @Ke<|ai @J5<|ai @F9<|ai @J9<|ai @CE<|ai @Kb<|ai @Ka<|ai @F1<|ai @OB<|@BC):=⟨@E2,@E0,@E1,@OV,@Kd,@J4,@J8,@F8,@JY,@JZ,@Cy,@J1,@J0,@FY,@Kr,@Kv,@OA,@BA,@BB,@E3,@OW,@Ke,@J5,@F9,@J9,@CE,@Kb,@Ka,@F1,@OB,@BC⟩
section
variable {T:Nat→Option Ty} {Γ:Env} {N F e:Nat} {Q Q':Kt} {t:Nat→D} {h:Nat→Option Row}
theorem gV (hm:∀x t h e,Q x t h e→Q' x t h e):∀(ws:List W) (x:Ex) (t:Nat→D) (h:Nat→Option Row) (e:Nat),da T Γ N F ws Q x t h e→da T Γ N F ws Q' x t h e
 | [],x,t,h,e,hk=>hm _ _ _ _ hk
 | .code c::ws,x,t,h,e,hk=>by
  unfold da at hk ⊢
  cases x with
  | normal=>exact Ru c t h e _ _ hk (fun x t h e hx=>gV hm ws x t h e hx)
  | exit n=>exact gV hm ws _ t h e hk
  | ret=>exact gV hm ws _ t h e hk
 | .blk id::ws,x,t,h,e,hk=>by
  unfold da Sa at hk ⊢
  cases x with
  | normal=>exact gV hm ws _ t h e hk
  | exit n =>
   simp only at hk ⊢
   split at hk
   ·rename_i hn;rw[if_pos hn];exact gV hm ws _ t h e hk
   ·rename_i hn;rw[if_neg hn];exact gV hm ws _ t h e hk
  | ret=>exact gV hm ws _ t h e hk
theorem oU:∀(ws:List W) (k:Nat),da T Γ N F ws Q=da T Γ N F (ws.take k) (da T Γ N F (ws.drop k) Q)
 | ws,0=>by simp[da]
 | [],k+1=>by simp[da]
 | .code c::ws,k+1=>by
  rw[List.take_succ_cons,List.drop_succ_cons]
  funext x t h e
  unfold da
  rw[oU ws k]
 | .blk id::ws,k+1=>by
  rw[List.take_succ_cons,List.drop_succ_cons]
  funext x t h e
  unfold da
  rw[oU ws k]
variable {σ:Type} {ops l:List Oper} {ws:List W} {dst:Option Nat} {fs:List kI} {d:D} {g:Nat}
theorem sj {J:σ→(Nat→D)→(Nat→Option Row)→Nat→Prop} {P:σ→Prop} {R:Kt} (hrest:∀s t h e,J s t h e→P s→R .normal t h e):∀x t h e,CK J P R x t h e→R x t h e:=by
 intro x t h e hx
 cases x with
 | normal=>obtain⟨s,h1,h2⟩:=hx;exact hrest s t h e h2 h1
 | exit n=>exact hx
 | ret=>exact hx
theorem vq (hm:∀x t h e,Q x t h e→Q' x t h e) (hk:lq T Γ N F ops l ws Q t h e):lq T Γ N F ops l ws Q' t h e:=vt (fun t h hh=>gV hm ws _ _ _ _ hh) _ _ _ hk
theorem vr (hm:∀x t h e,Q x t h e→Q' x t h e) (hk:lr T Γ N F ops l ws Q t h e fs):lr T Γ N F ops l ws Q' t h e fs:=vp (fun t h fs hh=>⟨hh.1,gV hm ws _ _ _ _ hh.2⟩) _ _ _ _ hk
theorem rZ (k:Nat):lq T Γ N F ops l ws Q t h e=lq T Γ N F ops l (ws.take k) (da T Γ N F (ws.drop k) Q) t h e:=by unfold lq;rw[oU ws k]
theorem sa (k:Nat):lr T Γ N F ops l ws Q t h e fs=lr T Γ N F ops l (ws.take k) (da T Γ N F (ws.drop k) Q) t h e fs:=by unfold lr;rw[oU ws k]
theorem Fm (k:Nat) {o:Oper} : pj T Γ N F o ops l ws Q t h e=pj T Γ N F o ops l (ws.take k) (da T Γ N F (ws.drop k) Q) t h e:=by
 unfold pj
 congr 1
 funext t E
 rw[rZ k]
theorem Fw (k:Nat) {o:Oper} : pk T Γ N F o ops l ws Q t h e fs=pk T Γ N F o ops l (ws.take k) (da T Γ N F (ws.drop k) Q) t h e fs:=by
 unfold pk
 congr 1
 funext t E
 rw[sa k]
theorem Ji {o:Oper} (hm:∀x t h e,Q x t h e→Q' x t h e) (hk:pj T Γ N F o ops l ws Q t h e):pj T Γ N F o ops l ws Q' t h e:=yo hk fun _ _ hh=>vq hm hh
theorem Jo {o:Oper} (hm:∀x t h e,Q x t h e→Q' x t h e) (hk:pk T Γ N F o ops l ws Q t h e fs):pk T Γ N F o ops l ws Q' t h e fs:=yo hk fun _ _ hh=>vr hm hh
variable (k:Nat) (J:σ→(Nat→D)→(Nat→Option Row)→Nat→Prop) (P:σ→Prop)
theorem iK {x y:Code} (hrest:∀s t h e,J s t h e→P s→da T Γ N F (ws.drop k) Q .normal t h e) (hc:Im T Γ N F d g x y (ws.take k) (CK J P (da T Γ N F (ws.drop k) Q)) t h e):Im T Γ N F d g x y ws Q t h e:=by
 unfold Im at hc ⊢
 have e1:∀c:Code,da T Γ N F (.code c::ws) Q=da T Γ N F (.code c::ws.take k) (da T Γ N F (ws.drop k) Q):=fun c=>oU (.code c::ws) (k+1)
 rw[e1,e1]
 exact ym hc (fun _ hh=>gV (sj hrest) _ _ _ _ _ hh) (fun _ hh=>gV (sj hrest) _ _ _ _ _ hh)
theorem bD {want:Bool} {o:Oper} (hrest:∀s t h e,J s t h e→P s→da T Γ N F (ws.drop k) Q .normal t h e) (hc:vJ T Γ N F d g want o ops l (ws.take k) (CK J P (da T Γ N F (ws.drop k) Q)) t h e):vJ T Γ N F d g want o ops l ws Q t h e:=by
 unfold vJ at hc ⊢
 refine DR hc (fun t hh =>?_) (fun t hh =>?_) (fun t hh =>?_)
 ·cases want
  ·simp only[Bool.false_eq_true,if_false]at hh ⊢;rw[rZ k];exact vq (sj hrest) hh
  ·simp only[if_true]at hh ⊢;rw[Fm k];exact Ji (sj hrest) hh
 ·cases want
  ·simp only[Bool.false_eq_true,if_false]at hh ⊢;rw[Fm k];exact Ji (sj hrest) hh
  ·simp only[if_true]at hh ⊢;rw[rZ k];exact vq (sj hrest) hh
 ·rw[rZ k];exact vq (sj hrest) hh
theorem LX {want:Bool} {o:Oper} (hrest:∀s t h e,J s t h e→P s→da T Γ N F (ws.drop k) Q .normal t h e) (hc:vK T Γ N F d g want o ops l (ws.take k) (CK J P (da T Γ N F (ws.drop k) Q)) t h e fs):vK T Γ N F d g want o ops l ws Q t h e fs:=by
 unfold vK at hc ⊢
 refine DR hc (fun t hh =>?_) (fun t hh =>?_) (fun t hh =>?_)
 ·cases want
  ·simp only[Bool.false_eq_true,if_false]at hh ⊢;rw[sa k];exact vr (sj hrest) hh
  ·simp only[if_true]at hh ⊢;rw[Fw k];exact Jo (sj hrest) hh
 ·cases want
  ·simp only[Bool.false_eq_true,if_false]at hh ⊢;rw[Fw k];exact Jo (sj hrest) hh
  ·simp only[if_true]at hh ⊢;rw[sa k];exact vr (sj hrest) hh
 ·rw[sa k];exact vr (sj hrest) hh
end
noncomputable def Ry {α β γ:Type} (ty:Nat) (E:jX γ) (A:mP α) (F:List γ→α→Option (List γ×β)) (R:β→RK):Option (D×Row)→List D→Option (RK×Option Row):=fun lent ds =>
 match lent with
 | some (.buf 0 0 s o n,⟨0,ty',cells,false,true,false⟩)=>open Classical in
  if h:ty'=ty∧s=E.size∧∃p:List D×List γ×List D×α,cells=p.1++(ab E p.2.1++p.2.2.1)∧o=p.1.length∧n=p.2.1.length∧ds=A.ds p.2.2.2 then
   (F (Classical.choose h.2.2).2.1 (Classical.choose h.2.2).2.2.2).map fun r=>(R r.2,some ⟨0,ty,(Classical.choose h.2.2).1++(ab E r.1++(Classical.choose h.2.2).2.2.1),false,true,false⟩)
  else none
 | _=>none
theorem P7 {γ:Type} {E:jX γ} {p p' q q':List D} {l l':List γ} (h:p++(ab E l++q)=p'++(ab E l'++q')) (hp:p.length=p'.length) (hl:l.length=l'.length):p=p'∧l=l'∧q=q':=by
 obtain⟨h1,h2⟩:=List.append_inj h hp
 obtain⟨h3,h4⟩:=List.append_inj h2 (by rw[cQ,cQ,hl])
 exact⟨h1,tH E _ _ h3,h4⟩
theorem CS {α β γ:Type} (ty:Nat) (E:jX γ) (A:mP α) (F:List γ→α→Option (List γ×β)) (R:β→RK) (pre post:List D) (l:List γ) (a:α) :
  Ry ty E A F R (some (.buf 0 0 E.size pre.length l.length,⟨0,ty,pre++(ab E l++post),false,true,false⟩)) (A.ds a)=(F l a).map fun r=>(R r.2,some ⟨0,ty,pre++(ab E r.1++post),false,true,false⟩):=by
 have h:ty=ty∧E.size=E.size∧∃p:List D×List γ×List D×α,pre++(ab E l++post)=p.1++(ab E p.2.1++p.2.2.1)∧pre.length=p.1.length∧l.length=p.2.1.length∧A.ds a=A.ds p.2.2.2:=⟨rfl,rfl,(pre,l,post,a),rfl,rfl,rfl,rfl⟩
 simp only[Ry]
 rw[dif_pos h]
 obtain⟨h1,h2,h3,h4⟩:=Classical.choose_spec h.2.2
 obtain⟨e1,e2,e3⟩:=P7 h1 h2 h3
 rw[← A.inj _ _ h4,← e1,← e2,← e3]
theorem KU {α β γ:Type} {ty:Nat} {E:jX γ} {A:mP α} {F:List γ→α→Option (List γ×β)} {R:β→RK} {lent:Option (D×Row)} {ds:List D} {rk:RK} {out:Option Row} (h:Ry ty E A F R lent ds=some (rk,out)) :
  ∃pre l post a l' r,lent=some (.buf 0 0 E.size pre.length l.length,⟨0,ty,pre++(ab E l++post),false,true,false⟩)∧ds=A.ds a∧F l a=some (l',r)∧rk=R r∧out=some ⟨0,ty,pre++(ab E l'++post),false,true,false⟩:=by
 unfold Ry at h
 split at h
 ·split at h
  ·rename_i he
   obtain⟨rfl,rfl,he⟩:=he
   rw[Option.map_eq_some_iff]at h
   obtain⟨⟨l',r⟩,h1,h2⟩:=h
   simp only[Prod.mk.injEq]at h2
   obtain⟨rfl,rfl⟩:=h2
   obtain⟨g1,g2,g3,g4⟩:=Classical.choose_spec he
   refine⟨_,_,_,_,l',r,?_,g4,h1,rfl,rfl⟩
   rw[← g1,← g2,← g3]
  ·cases h
 ·cases h
theorem bH.O6 {P:Program} {T:Nat→Option Ty} {Γ:Env} (hT:lC P T) (hΓ:bN P Γ) (hm:P.follows .mixedOrders=true) {α β γ:Type} {ty:Nat} {E:jX γ} {A:mP α} {F:List γ→α→Option (List γ×β)} {R:β→RK} {mode:Mode} {f:FuncId} {fn:Func} (hf:P.funcs[f]? = some fn) (hok:(match fn.body with|some c=>codeOk c|none=>true)=true)
  (hc:(fn.name == "runtime.NumGoroutine")=false∧fn.body.isNone=false) (hn:∀a,(A.ds a).length+1≤fn.ntmps)
  (h:∀pre post l a l' r,F l a=some (l',r)→aQ mode T Γ FU fn (some (.buf 0 0 E.size pre.length l.length,⟨0,ty,pre++(ab E l++post),false,true,false⟩)) (A.ds a)=some (R r,some ⟨0,ty,pre++(ab E l'++post),false,true,false⟩)):bH P f (Ry ty E A F R) where
 calls lent aai rk out hg:=by
  obtain⟨pre,l,post,a,l',r,rfl,rfl,hr,rfl,rfl⟩:=KU hg
  exact kD hT hΓ hm hf hok (hn a) rfl (h pre post l a l' r hr)
 callable:=⟨fn,hf,hc⟩
noncomputable def Ws {α γ:Type} (ty:Nat) (E:jX γ) (A:mP α) (F:List γ→α→Option (List γ)):Option (D×Row)→List D→Option (RK×Option Row):=fun lent ds =>
 match lent with
 | some (.buf 0 0 s o n,⟨0,ty',cells,false,true,false⟩)=>open Classical in
  if h:ty'=ty∧s=E.size∧∃p:List D×List γ×List D×α,cells=p.1++(ab E p.2.1++p.2.2.1)∧o=p.1.length∧n=p.2.1.length∧ds=A.ds p.2.2.2 then
   (F (Classical.choose h.2.2).2.1 (Classical.choose h.2.2).2.2.2).map fun r=>(.fresh ty E.size r.length (ab E r),none)
  else none
 | _=>none
theorem Tn {α γ:Type} (ty:Nat) (E:jX γ) (A:mP α) (F:List γ→α→Option (List γ)) (pre post:List D) (l:List γ) (a:α) :
  Ws ty E A F (some (.buf 0 0 E.size pre.length l.length,⟨0,ty,pre++(ab E l++post),false,true,false⟩)) (A.ds a)=(F l a).map fun r=>(.fresh ty E.size r.length (ab E r),none):=by
 have h:ty=ty∧E.size=E.size∧∃p:List D×List γ×List D×α,pre++(ab E l++post)=p.1++(ab E p.2.1++p.2.2.1)∧pre.length=p.1.length∧l.length=p.2.1.length∧A.ds a=A.ds p.2.2.2:=⟨rfl,rfl,(pre,l,post,a),rfl,rfl,rfl,rfl⟩
 simp only[Ws]
 rw[dif_pos h]
 obtain⟨h1,h2,h3,h4⟩:=Classical.choose_spec h.2.2
 obtain⟨e1,e2,e3⟩:=P7 h1 h2 h3
 rw[← A.inj _ _ h4,← e2]
theorem KT {α γ:Type} {ty:Nat} {E:jX γ} {A:mP α} {F:List γ→α→Option (List γ)} {lent:Option (D×Row)} {ds:List D} {rk:RK} {out:Option Row} (h:Ws ty E A F lent ds=some (rk,out)) :
  ∃pre l post a r,lent=some (.buf 0 0 E.size pre.length l.length,⟨0,ty,pre++(ab E l++post),false,true,false⟩)∧ds=A.ds a∧F l a=some r∧rk=.fresh ty E.size r.length (ab E r)∧out=none:=by
 unfold Ws at h
 split at h
 ·split at h
  ·rename_i he
   obtain⟨rfl,rfl,he⟩:=he
   rw[Option.map_eq_some_iff]at h
   obtain⟨r,h1,h2⟩:=h
   simp only[Prod.mk.injEq]at h2
   obtain⟨rfl,rfl⟩:=h2
   obtain⟨g1,g2,g3,g4⟩:=Classical.choose_spec he
   refine⟨(Classical.choose he).1,(Classical.choose he).2.1,(Classical.choose he).2.2.1,(Classical.choose he).2.2.2,r,?_,g4,h1,rfl,rfl⟩
   rw[← g1,← g2,← g3]
  ·cases h
 ·cases h
theorem bH.Yb {P:Program} {T:Nat→Option Ty} {Γ:Env} (hT:lC P T) (hΓ:bN P Γ) (hm:P.follows .mixedOrders=true) {α γ:Type} {ty:Nat} {E:jX γ} {A:mP α} {F:List γ→α→Option (List γ)} {f:FuncId} {fn:Func} (hf:P.funcs[f]? = some fn) (hok:(match fn.body with|some c=>codeOk c|none=>true)=true)
  (hc:(fn.name == "runtime.NumGoroutine")=false∧fn.body.isNone=false) (hn:∀a,(A.ds a).length+1≤fn.ntmps)
  (h:∀pre post l a r,F l a=some r→aQ (.fresh ty E.size) T Γ FU fn (some (.buf 0 0 E.size pre.length l.length,⟨0,ty,pre++(ab E l++post),false,true,false⟩)) (A.ds a)=some (.fresh ty E.size r.length (ab E r),none)):bH P f (Ws ty E A F) where
 calls lent aai rk out hg:=by
  obtain⟨pre,l,post,a,r,rfl,rfl,hr,rfl,rfl⟩:=KT hg
  exact kD hT hΓ hm hf hok (hn a) rfl (h pre post l a r hr)
 callable:=⟨fn,hf,hc⟩
theorem bH.zero {P:Program} {f:FuncId} {fn:Func} (hf:P.funcs[f]? = some fn) (hc:(fn.name == "runtime.NumGoroutine")=false∧fn.body.isNone=false) {α β:Type} {A:mP α} {F:α→Option β} {R:β→RK} (h0:∀a,F a=none):bH P f (eL A F R) where
 calls lent aai rk out hg:=by
  obtain⟨rfl,rfl,a,r,rfl,hr,rfl⟩:=qp hg
  rw[h0]at hr
  cases hr
 callable:=⟨fn,hf,hc⟩
section
variable {h:Nat→Option Row} {Γ:Env} {g e x v d:Nat} {dst:Option Nat} {fr:List Nat} {aai rest:List D} {d0:D} {T:Nat→Option Ty} {rs:List ResultVar}
def IH (h:Nat→Option Row) (e:Nat) (dst:Option Nat) (x v:Nat) (fr:List Nat):Option (RK×Option Row)→Option dS
 | some (.clean c,some r1)=>some ⟨c,iY h fr++[(x,some { r1 with v:=v })]⟩
 | some (.same s o n,some r1)=>some ⟨.buf x v s o n,iY h fr++[(x,some { r1 with v:=v })]⟩
 | some (.fresh ty s n cells,none) =>
  match dst with
  | some d=>if fr.contains d=false then some ⟨.buf d e s 0 n,iY h fr++[(x,none),(d,some ⟨e,ty,cells,false,true,false⟩)]⟩ else none
  | none=>none
 | _=>none
def Sf (Γ:Env) (h:Nat→Option Row) (e:Nat) (dst:Option Nat) (g x v:Nat) (d0:D) (r:Row):Option (List D×List Nat)→Option dS
 | some (aai,fr)=>if fr.contains x=false then IH h e dst x v fr (Γ.sem g (some (d0,r)) aai) else none
 | none=>none
def Se (Γ:Env) (h:Nat→Option Row) (e:Nat) (dst:Option Nat) (g x v:Nat) (d0:D) (rest:List D):Option Row→Option dS
 | some r=>if r.fz=false then Sf Γ h e dst g x v d0 { r with v:=0 } (cn h rest) else none
 | none=>none
theorem II {s o n:Nat} : DX true Γ h e dst g (.buf x v s o n::rest)=Se Γ h e dst g x v (.buf 0 0 s o n) rest (live h x v):=by
 simp only[DX,if_true,so]
 cases live h x v with
 | none=>rfl
 | some r =>
  simp only[Se]
  cases cn h rest with
  | none=>rfl
  | some p=>rfl
theorem BD {r:Row} : Se Γ h e dst g x v d0 rest (some r)=if r.fz=false then Sf Γ h e dst g x v d0 { r with v:=0 } (cn h rest) else none:=Eq.trans rfl rfl
theorem BE {r:Row} : Sf Γ h e dst g x v d0 r (some (aai,fr))=if fr.contains x=false then IH h e dst x v fr (Γ.sem g (some (d0,r)) aai) else none:=Eq.trans rfl rfl
theorem zt {c:D} {v' ty:Nat} {cells:List D} {fz lst:Bool} : IH h e dst x v fr (some (.clean c,some ⟨v',ty,cells,fz,lst,false⟩))=some ⟨c,iY h fr++[(x,some ⟨v,ty,cells,fz,lst,false⟩)]⟩:=Eq.trans rfl rfl
theorem BF {s o n v' ty:Nat} {cells:List D} {fz lst:Bool} : IH h e dst x v fr (some (.same s o n,some ⟨v',ty,cells,fz,lst,false⟩))=some ⟨.buf x v s o n,iY h fr++[(x,some ⟨v,ty,cells,fz,lst,false⟩)]⟩:=Eq.trans rfl rfl
theorem zu {s n ty:Nat} {cells:List D} : IH h e (some d) x v fr (some (.fresh ty s n cells,none))=if fr.contains d=false then some ⟨.buf d e s 0 n,iY h fr++[(x,none),(d,some ⟨e,ty,cells,false,true,false⟩)]⟩ else none:=Eq.trans rfl rfl
theorem zS {ty sz i:Nat} {t:Nat→D} {l:D×Row} : gW (.fresh ty sz) T (some l) [.tmp i] ⟨t,h,e⟩=lK ty sz h (t i):=Eq.trans rfl rfl
def X0 (y v s o:Nat):Option Row→Option Ty→Option (Nat×Nat)→Option dS
 | some _,some φ,some (l,k)=>if φ.size=s∧0<s then some ⟨.buf y v s (o+l*s) (k-l),[]⟩ else none
 | _,_,_=>none
theorem FI {y v s o l k:Nat} {r:Row} {φ:Ty} : X0 y v s o (some r) (some φ) (some (l,k))=if φ.size=s∧0<s then some ⟨.buf y v s (o+l*s) (k-l),[]⟩ else none:=Eq.trans rfl rfl
theorem OU {el b c y v s o n:Nat} {z:List Value} {q:Bool} {lo hi:Option D} : cK T ⟨.slice el,b,c,z,q⟩ h (.buf y v s o n) lo hi none=X0 y v s o (live h y v) (T el) (tn n lo hi):=by
 simp only[cK]
 cases live h y v with
 | none=>rfl
 | some r =>
  simp only
  cases T el with
  | none=>rfl
  | some φ =>
   cases tn n lo hi with
   | none=>rfl
   | some p=>rfl
def W1 (ty:Nat):Option (List D×List Nat)→Option Row→Option (RK×Option Row)
 | some (ds,fr),some r=>if r.v=0∧r.fz=false∧r.ty=ty∧r.mp=false∧fr.contains 0=false then some (.clean (pZ ds),some r) else none
 | _,_=>none
theorem FF {ty:Nat} {ds:List D} {r:Row} : W1 ty (some (ds,fr)) (some r)=if r.v=0∧r.fz=false∧r.ty=ty∧r.mp=false∧fr.contains 0=false then some (.clean (pZ ds),some r) else none:=Eq.trans rfl rfl
theorem FG {t:Nat→D} {ty v:Nat} {cells:List D} {fz lst:Bool} : gW .clean T (some (d0,⟨v,ty,cells,fz,lst,false⟩)) rs ⟨t,h,e⟩=W1 ty (w8 T ⟨t,h,e⟩ rs) (h 0):=by
 simp only[gW,tI,kV,Vy,W1]
 cases w8 T ⟨t,h,e⟩ rs with
 | none=>rfl
 | some p =>
  obtain⟨ds,fr⟩:=p
  cases h 0 with
  | none=>rfl
  | some r =>
   simp only
   by_cases h1:r.v=0∧r.fz=false∧r.ty=ty∧r.mp=false
   ·rw[if_pos h1]
    simp only[Bool.not_eq_true']
    by_cases h2:fr.contains 0=false
    ·rw[if_pos h2,if_pos ⟨h1.1,h1.2.1,h1.2.2.1,h1.2.2.2,h2⟩]
    ·rw[if_neg h2,if_neg (fun hh=>h2 hh.2.2.2.2)]
   ·rw[if_neg h1,if_neg (fun hh=>h1 ⟨hh.1,hh.2.1,hh.2.2.1,hh.2.2.2.1⟩)]
def Vh (ty:Nat):D→Option Row→Option (RK×Option Row)
 | .buf 0 0 s o n,some r=>if r.v=0∧r.fz=false∧r.ty=ty∧r.mp=false then some (.same s o n,some r) else none
 | _,_=>none
theorem Jz {ty s o n:Nat} {r:Row} : Vh ty (.buf 0 0 s o n) (some r)=if r.v=0∧r.fz=false∧r.ty=ty∧r.mp=false then some (.same s o n,some r) else none:=Eq.trans rfl rfl
theorem FH {t:Nat→D} {ty v i:Nat} {cells:List D} {fz lst:Bool} : gW .same T (some (d0,⟨v,ty,cells,fz,lst,false⟩)) [.tmp i] ⟨t,h,e⟩=Vh ty (t i) (h 0):=by
 simp only[gW,A5,kV]
 generalize t i=q
 cases q with
 | buf a b s o n =>
  cases h 0 with
  | none=>rcases a with _|a<;>rcases b with _|b<;>rfl
  | some r =>
   simp only
   by_cases h1:r.v=0∧r.fz=false∧r.ty=ty∧r.mp=false
   ·rcases a with _|a<;>rcases b with _|b<;>simp[Vh,h1]
   ·rcases a with _|a<;>rcases b with _|b<;>simp[Vh,h1]
 | _=>rfl
end
section
variable {α:Type} (E:jX α) {l m u x:List α} {y y':α} {i a b:Int} {pre post:List D}
theorem VU (h:DA l a b=some x):ab E (l.take a.toNat)++(ab E x++ab E (l.drop b.toNat))=ab E l:=by
 unfold DA at h
 split at h
 ·rename_i hc
  cases h
  rw[← gq,← gq]
  congr 1
  have e:l.drop b.toNat=(l.drop a.toNat).drop (b.toNat-a.toNat):=by rw[List.drop_drop];congr 1;omega
  rw[e,List.take_append_drop,List.take_append_drop]
 ·cases h
theorem VV (h:DA l a b=some x):(ab E (l.take a.toNat)).length=a.toNat*E.size:=by
 unfold DA at h
 split at h
 ·rw[cQ,List.length_take,Nat.min_eq_left (by omega)]
 ·cases h
theorem WI (h:DA l a b=some x):x.length=b.toNat-a.toNat:=by
 unfold DA at h
 split at h
 ·cases h
  simp
  omega
 ·cases h
theorem VT:ab E (l.take i.toNat)++(ab E u++ab E (l.drop b.toNat))=ab E (l.take i.toNat++(u++l.drop b.toNat)):=by rw[gq,gq]
theorem S6 (h:P.idx l i=some y):(pre++(ab E l++post)).drop (pre.length+i.toNat*E.size)=E.cells y++(ab E (l.drop (i.toNat+1))++post):=by
 rw[← List.drop_drop,List.drop_left,List.drop_append_of_le_length (by rw[cQ];have:=vb E h;omega),xN E h,List.append_assoc]
theorem S7 (h:P.idx l i=some y):pre.length+i.toNat*E.size+E.size≤(pre++(ab E l++post)).length:=by
 have:=vb E h
 rw[List.length_append,List.length_append,cQ]
 omega
theorem tQ (h:P.idx l i=some y):(0≤i∧i<l.length)∧(pre++(ab E l++post)).drop (pre.length+i.toNat*E.size)=E.cells y++(ab E (l.drop (i.toNat+1))++post)∧pre.length+i.toNat*E.size+E.size≤(pre++(ab E l++post)).length:=⟨tR h,S6 E h,S7 E h⟩
theorem xV (h:P.idx l i=some y):putCells (pre++(ab E l++post)) (pre.length+i.toNat*E.size) (E.cells y')=pre++(ab E (l.set i.toNat y')++post):=by
 have h1:=TH E (x':=y') h
 have hf:=vb E h
 have hl:=cQ E l
 unfold putCells at h1 ⊢
 rw[← h1,E.len]
 have e1:(pre++(ab E l++post)).take (pre.length+i.toNat*E.size)=pre++(ab E l).take (i.toNat*E.size):=by
  rw[List.take_append,List.take_of_length_le (by omega),Nat.add_sub_cancel_left,List.take_append_of_le_length (by omega)]
 have e2:(pre++(ab E l++post)).drop (pre.length+i.toNat*E.size+E.size)=(ab E l).drop (i.toNat*E.size+E.size)++post:=by
  rw[Nat.add_assoc,List.drop_append,List.drop_eq_nil_of_le (by omega),Nat.add_sub_cancel_left,List.nil_append,List.drop_append_of_le_length (by omega)]
 rw[e1,e2]
 simp only[List.append_assoc]
theorem UH (h:DA l a b=some x) (hu:u.length=x.length):(l.take a.toNat++(u++l.drop b.toNat)).length=l.length:=by
 have hn:=WI h
 unfold DA at h
 split at h
 ·simp only[List.length_append,List.length_take,List.length_drop]
  omega
 ·cases h
theorem VI (h:DA l 0 b=some x):pre.length+x.length*E.size≤(pre++(ab E l++post)).length∧((pre++(ab E l++post)).drop pre.length).take (x.length*E.size)=ab E x:=by
 obtain⟨h1,h2,h3,h4,h5⟩:=DB E h
 have:=Nat.mul_le_mul_right E.size h3
 refine⟨by rw[List.length_append,List.length_append,cQ];omega,?_⟩
 rw[List.drop_left,List.take_append_of_le_length (by rw[cQ];exact this),h5]
end
section
variable {h:Nat→Option Row} {Γ:Env} {e:Nat} {dst:Option Nat}
def ZV:Option (D×List Nat)→Option (List D×List Nat)→Option (List D×List Nat)
 | some (d,fr),some (ds,fr')=>some (d::ds,fr++fr')
 | _,_=>none
theorem IG {d:D} {ds:List D} {fr fr':List Nat} : ZV (some (d,fr)) (some (ds,fr'))=some (d::ds,fr++fr'):=Eq.trans rfl rfl
theorem IV:cT h []=some ([],[]):=Eq.trans rfl rfl
theorem E9 {d:D} {ds:List D} : cT h (d::ds)=ZV (aT h d) (cT h ds):=by
 simp only[cT]
 cases aT h d with
 | none=>rfl
 | some x=>cases cT h ds<;>rfl
theorem OE {k:IntKind} {n:Int} : aT h (.int k n)=some (.int k n,[]):=Eq.trans rfl rfl
theorem IU {b:Bool} : aT h (.bool b)=some (.bool b,[]):=Eq.trans rfl rfl
theorem OH {b:ByteArray} : aT h (.str b)=some (.str b,[]):=Eq.trans rfl rfl
theorem Sm {a b:Bool} {n:Nat} {xs:List D} : aT h (.sl a b n xs)=some (.sl false false n xs,[]):=Eq.trans rfl rfl
theorem OD {xs:List D} : aT h (.agg xs)=some (.agg (xs.map canon),[]):=Eq.trans rfl rfl
theorem Si {f:Nat} : aT h (.fn f)=some (.fn f,[]):=Eq.trans rfl rfl
def ZW (f k:Nat):Option (List D×List Nat)→Option (D×List Nat)
 | some (ys,fr)=>some (.clo f k ys,fr)
 | none=>none
theorem I5 {f k:Nat} {ys:List D} {fr:List Nat} : ZW f k (some (ys,fr))=some (.clo f k ys,fr):=Eq.trans rfl rfl
theorem IZ {f k:Nat} {xs:List D} : bY h (.clo f k xs)=ZW f k (cT h xs):=by
 simp only[bY]
 cases cT h xs<;>rfl
theorem IQ {g k:Nat} {caps args:List D} : gM Γ h e dst (.clo g k caps) args=if caps.all ja then DX false Γ h e dst g (caps.take k++(args++caps.drop k)) else none:=by
 simp only[gM,DX,Bool.false_eq_true,if_false]
theorem Pk {k:IntKind} {n:Int} : ja (.int k n)=true:=Eq.trans rfl rfl
theorem Lc {b:Bool} : ja (.bool b)=true:=Eq.trans rfl rfl
theorem Po {b:ByteArray} : ja (.str b)=true:=Eq.trans rfl rfl
theorem Tx {a b:Bool} {n:Nat} {xs:List D} : ja (.sl a b n xs)=true:=Eq.trans rfl rfl
theorem Pj {xs:List D} : ja (.agg xs)=true:=Eq.trans rfl rfl
theorem Tt {f:Nat} : ja (.fn f)=true:=Eq.trans rfl rfl
end
theorem Dl:pZ []=.tup []:=Eq.trans rfl rfl
def ZU (f:Nat):Arg Unit:=⟨fun _ =>.fn f,fun _ _ _=>rfl⟩
def RS {α:Type} (f k:Nat) (a:mP α):Arg α:=⟨fun x =>.clo f k (a.ds x),fun x y h=>a.inj _ _ (by simpa using h)⟩
theorem Z6:type_of% (ai @IG<|ai @IV<|ai @E9<|ai @OE<|ai @IU<|ai @OH<|ai @Sm<|ai @OD<|ai @Si<|ai @I5<|ai @IZ<|ai @IQ<|ai @Pk<|ai @Lc<|ai @Po<|ai @Tx<|ai @Pj<|ai @Tt<|ai @Dl<|ai @xr<|ai @xu<|@A2):=⟨@IG,@IV,@E9,@OE,@IU,@OH,@Sm,@OD,@Si,@I5,@IZ,@IQ,@Pk,@Lc,@Po,@Tx,@Pj,@Tt,@Dl,@xr,@xu,@A2⟩
theorem Z5:type_of% (ai @Lp<|ai @List.contains_cons.{0}<|ai @OU<|ai @FI<|ai @zu<|ai @zS<|ai @II<|ai @BD<|ai @BE<|ai @zt<|ai @BF<|ai @FF<|ai @FG<|ai @Jz<|@FH):=⟨@Lp,@List.contains_cons.{0},@OU,@FI,@zu,@zS,@II,@BD,@BE,@zt,@BF,@FF,@FG,@Jz,@FH⟩
section
variable {T:Nat→Option Ty} {h:Nat→Option Row} {τ:Ty} {q:Nat→Bool}
theorem Tg {x v o:Nat} : mw τ h (.ptr x v o)=oD τ h x v o (live h x v):=Eq.trans rfl rfl
theorem Wa {xs:List D} : mw τ h (.ip xs)=dB τ h (.ip xs):=Eq.trans rfl rfl
theorem V8 {x v o v' ty:Nat} {c:List D} {fz:Bool} : oD τ h x v o (some ⟨v',ty,c,fz,true,false⟩)=dB τ h (.ptr x v o):=by
 simp only[oD,Bool.not_true,Bool.and_false,Bool.false_eq_true,if_false]
theorem V9 {x v o v' ty:Nat} {c:List D} {lst:Bool} : oD τ h x v o (some ⟨v',ty,c,false,lst,false⟩)=dB τ h (.ptr x v o):=by
 simp only[oD,Bool.false_and,Bool.false_eq_true,if_false]
def ZF:Option D→Option dS→Option dS
 | some d,_=>some ⟨d,[]⟩
 | none,E=>E
theorem Kl {d:D} {E:Option dS} : ZF (some d) E=some ⟨d,[]⟩:=Eq.trans rfl rfl
theorem Kk {E:Option dS} : ZF none E=E:=Eq.trans rfl rfl
theorem V7 {x v o v' ty:Nat} {c:List D} : oD τ h x v o (some ⟨v',ty,c,true,false,false⟩)=if o+τ.size≤c.length then ZF (Mg τ.ds.oY ((c.drop o).take τ.size)) (dB τ h (.ptr x v o)) else none:=by
 simp only[oD,Bool.not_false,Bool.and_self,if_true]
 cases Mg τ.ds.oY ((c.drop o).take τ.size)<;>rfl
theorem R2 {x v s o n:Nat} : Mg true [.ali x v s o n]=some (.box1 x v s o n):=Eq.trans rfl rfl
theorem R0 {x v s o n:Nat} : Mg false [.ali x v s o n]=some (.buf x v s o n):=Eq.trans rfl rfl
theorem PF {p:D} {k:IntKind} {n:Int} : cZ τ h p (.int k n)=cP τ h p (.int k n):=Eq.trans rfl rfl
theorem LQ {p:D} {b:Bool} : cZ τ h p (.bool b)=cP τ h p (.bool b):=Eq.trans rfl rfl
theorem PH {p:D} {b:ByteArray} : cZ τ h p (.str b)=cP τ h p (.str b):=Eq.trans rfl rfl
theorem TY {p:D} {a b:Bool} {n:Nat} {xs:List D} : cZ τ h p (.sl a b n xs)=cP τ h p (.sl a b n xs):=Eq.trans rfl rfl
theorem PG {p:D} {x v o:Nat} : cZ τ h p (.ptr x v o)=cP τ h p (.ptr x v o):=Eq.trans rfl rfl
theorem TV {p:D} {xs:List D} : cZ τ h p (.ip xs)=cP τ h p (.ip xs):=Eq.trans rfl rfl
theorem PD {p:D} {x v s o n:Nat} : cZ τ h p (.buf x v s o n)=cP τ h p (.buf x v s o n):=Eq.trans rfl rfl
theorem PB {p:D} {xs:List D} : cZ τ h p (.agg xs)=cP τ h p (.agg xs):=Eq.trans rfl rfl
theorem TU {p:D} {f:Nat} : cZ τ h p (.fn f)=cP τ h p (.fn f):=Eq.trans rfl rfl
theorem PE {p:D} {f k:Nat} {xs:List D} : cZ τ h p (.clo f k xs)=cP τ h p (.clo f k xs):=Eq.trans rfl rfl
theorem PI {p:D}  : cZ τ h p (.und)=cP τ h p (.und):=Eq.trans rfl rfl
def Yy (τ:Ty) (x o y vy s oy n:Nat):Option Row→Option dS
 | some r=>if τ.size=1∧o=0∧r.cells.length=1∧r.fz=false∧r.lst=false then some ⟨.und,[(x,some ⟨r.v,r.ty,[.ali y vy s oy n],true,false,false⟩)]⟩ else none
 | none=>none
theorem GL {x o y vy s oy n:Nat} {r:Row} : Yy τ x o y vy s oy n (some r)=if τ.size=1∧o=0∧r.cells.length=1∧r.fz=false∧r.lst=false then some ⟨.und,[(x,some ⟨r.v,r.ty,[.ali y vy s oy n],true,false,false⟩)]⟩ else none:=Eq.trans rfl rfl
theorem PC {x v o y vy s oy n:Nat} : cZ τ h (.ptr x v o) (.box1 y vy s oy n)=Yy τ x o y vy s oy n (live h x v):=by
 simp only[cZ]
 cases live h x v<;>rfl
def ID (b:Bool) (T:Nat→Option Ty) (τ:Ty) (h:Nat→Option Row) (ps:List (Nat×D)):Option dS :=
 if b then eQ T τ h ps else
  match τ.ds,ps with
  | .struct fs,[(0,.buf x v s o n)]=>if (alive h (.buf x v s o n))∧(fs.all fun f=>(T f.1).isSome)∧fieldAt T fs 0=some (0,1)∧τ.zero.length=1 then some ⟨.box1 x v s o n,[]⟩ else none
  | .struct fs,[(0,.box1 x v s o n)]=>if (alive h (.buf x v s o n))∧(fs.all fun f=>(T f.1).isSome)∧fieldAt T fs 0=some (0,1)∧τ.zero.length=1 then some ⟨.box1 x v s o n,[]⟩ else none
  | _,_=>cE (eQ T τ h ps)
theorem Oz {d:Nat} {ps:List (Nat×D)} : oA q T τ h (some d) ps=ID (q d) T τ h ps:=Eq.trans rfl rfl
theorem EV:ID false T τ h []=cE (eQ T τ h []):=by
 unfold ID
 rw[if_neg (by simp)]
 cases τ.ds<;>rfl
theorem Sb {cs:List D} {hw:List (Nat×Option Row)} : cE (some ⟨.agg cs,hw⟩)=some ⟨.agg (cs.map canon),hw⟩:=Eq.trans rfl rfl
theorem EW {ps:List (Nat×D)} : ID true T τ h ps=eQ T τ h ps:=Eq.trans rfl rfl
def R8 (T:Nat→Option Ty) (h:Nat→Option Row) (nz x v s o n:Nat):Ds→Option dS
 | .struct fs=>if (alive h (.buf x v s o n))∧(fs.all fun f=>(T f.1).isSome)∧fieldAt T fs 0=some (0,1)∧nz=1 then some ⟨.box1 x v s o n,[]⟩ else none
 | _=>none
theorem R9 {nz x v s o n:Nat} {fs:List (Nat×Nat)} : R8 T h nz x v s o n (.struct fs)=if (alive h (.buf x v s o n))∧(fs.all fun f=>(T f.1).isSome)∧fieldAt T fs 0=some (0,1)∧nz=1 then some ⟨.box1 x v s o n,[]⟩ else none:=Eq.trans rfl rfl
theorem IE {x v s o n:Nat} : ID false T τ h [(0,.box1 x v s o n)]=R8 T h τ.zero.length x v s o n τ.ds:=by
 unfold ID R8 eQ
 rw[if_neg (by simp)]
 cases τ.ds<;>rfl
theorem By {x v s o n:Nat} : ID false T τ h [(0,.buf x v s o n)]=R8 T h τ.zero.length x v s o n τ.ds:=by
 unfold ID R8 eQ
 rw[if_neg (by simp)]
 cases τ.ds<;>rfl
def ZB:Option (D×List Nat)→Option (D×List Nat)
 | some (d,fr)=>some (.agg [d],fr)
 | none=>none
theorem Jb {d:D} {fr:List Nat} : ZB (some (d,fr))=some (.agg [d],fr):=Eq.trans rfl rfl
theorem IX {x v s o n:Nat} : bY h (.box1 x v s o n)=ZB (U9 x s o n (live h x v)):=by
 simp only[bY,aT,dA]
 cases live h x v with
 | none=>rfl
 | some r=>by_cases hc:o+n*s≤r.cells.length<;>simp[U9,ZB,hc,canon]
theorem Tp {x v s o n:Nat} : nm (.box1 x v s o n)=[x]:=Eq.trans rfl rfl
theorem EN {x v s o n:Nat} : alive h (.buf x v s o n)=(live h x v).isSome:=Eq.trans rfl rfl
theorem FN {fs:List (Nat×Nat)} {ft off:Nat} : fieldAt T ((ft,off)::fs) 0=(T ft).map fun φ=>(off,φ.size):=by
 simp only[fieldAt,List.getElem?_cons_zero]
 cases T ft<;>rfl
end
theorem Z7:type_of% (ai @Tg<|ai @Wa<|ai @V8<|ai @V9<|ai @Kl<|ai @Kk<|ai @V7<|ai @R2<|ai @R0<|ai @PF<|ai @LQ<|ai @PH<|ai @TY<|ai @PG<|ai @TV<|ai @PD<|ai @PB<|ai @TU<|ai @PE<|ai @PI<|ai @PC<|ai @GL<|ai @Oz<|ai @EW<|ai @R9<|ai @By<|ai @EV<|ai @IE<|ai @Sb<|ai @Jb<|ai @IX<|ai @Tp<|ai @EN<|@FN):=⟨@Tg,@Wa,@V8,@V9,@Kl,@Kk,@V7,@R2,@R0,@PF,@LQ,@PH,@TY,@PG,@TV,@PD,@PB,@TU,@PE,@PI,@PC,@GL,@Oz,@EW,@R9,@By,@EV,@IE,@Sb,@Jb,@IX,@Tp,@EN,@FN⟩
theorem v:type_of% (ai @Z8<|ai @Z9<|ai @Z0<|ai @Z1<|ai @Z2<|ai @Z3<|ai @Z4<|ai @Z5<|ai @Z6<|ai @Z7<|ai @Y5<|ai @vmu<|ai @Option.toList_some.{0}<|@Option.toList_none.{0}):=⟨@Z8,@Z9,@Z0,@Z1,@Z2,@Z3,@Z4,@Z5,@Z6,@Z7,@Y5,@vmu,@Option.toList_some.{0},@Option.toList_none.{0}⟩
def CQ {α:Type} : List (Int×α)→List Int
 | []=>[]
 | (k,_)::m=>k::CQ m
def QW {α:Type} (A:Arg α):List (Int×α)→List D
 | []=>[]
 | (_,v)::m=>A.d v::QW A m
section
variable {α:Type} {A:Arg α}
theorem KO:CQ ([]:List (Int×α))=[]:=Eq.trans rfl rfl
theorem KS:QW A []=[]:=Eq.trans rfl rfl
theorem KN (n:Int):∀m:List (Int×α),(CQ m).contains n=Vl m n
 | []=>rfl
 | (k,v)::m=>by
  have:=KN n m
  simp only[CQ,List.contains_cons,Vl,this]
  congr 1
  exact Bool.beq_comm
theorem map_inj:∀ {m m':List (Int×α)},CQ m=CQ m'→QW A m=QW A m'→m=m'
 | [],[],_,_=>rfl
 | [],(k,v)::m',h,_=>by simp[CQ]at h
 | (k,v)::m,[],h,_=>by simp[CQ]at h
 | (k,v)::m,(k',v')::m',h,g=>by
  simp only[CQ,List.cons.injEq]at h
  simp only[QW,List.cons.injEq]at g
  rw[h.1,A.inj _ _ g.1,map_inj h.2 g.2]
end
def eMp {α:Type} (A:Arg α):jX (List (Int×α)):=⟨fun m=>[.mpc (CQ m) (QW A m)],1,fun _=>rfl,by decide,fun x y h=>by
 simp only[List.cons.injEq,D.mpc.injEq,and_true]at h
 exact map_inj h.1 h.2⟩
theorem Ju {α:Type} (A:Arg α):(eMp A).size=1:=Eq.trans rfl rfl
def RU {α:Type} (e:jX α):Arg α:=⟨fun x =>.ip (e.cells x),fun x y h=>e.inj _ _ (by simpa using h)⟩
theorem V2 {α:Type} (e:jX α) (x:α):(RU e).d x=.ip (e.cells x):=Eq.trans rfl rfl
section
variable {T:Nat→Option Ty} {h:Nat→Option Row} {Γ:Env} {e:Nat} {dst:Option Nat}
def Zo (v:Nat):Option Row→Option (List Int×List D)
 | some r=>if r.v=v∧r.mp=true then (match r.cells with | [.mpc ks vs]=>some (ks,vs)|_=>none) else none
 | none=>none
theorem Kq {x v:Nat} : ic h x v=Zo v (h x):=by
 unfold ic Zo
 cases h x<;>rfl
theorem Ku {v ty:Nat} {ks:List Int} {vs:List D} {fz lst:Bool} : Zo v (some ⟨v,ty,[.mpc ks vs],fz,lst,true⟩)=some (ks,vs):=by simp[Zo]
def ZH (ks:List Int) (n:Int):Bool:=ks.contains n
theorem O8 {α:Type} {m:List (Int×α)} {n:Int} : ZH (CQ m) n=Vl m n:=KN n m
def ZY (ok:Bool) (z:D) (n:Int):Option (List Int×List D)→Option dS
 | some (ks,vs)=>some ⟨if ok then .tup [sC z ks vs n,.bool (ZH ks n)] else sC z ks vs n,[]⟩
 | none=>none
theorem Wr {z:D} {n:Int} {ks:List Int} {vs:List D} : ZY true z n (some (ks,vs))=some ⟨.tup [sC z ks vs n,.bool (ZH ks n)],[]⟩:=Eq.trans rfl rfl
theorem Wq {z:D} {n:Int} {ks:List Int} {vs:List D} : ZY false z n (some (ks,vs))=some ⟨sC z ks vs n,[]⟩:=Eq.trans rfl rfl
theorem KQ {x v:Nat} : mapOf h (.mp x v)=ic h x v:=Eq.trans rfl rfl
theorem F5 {ks:List Int} {vs:List D} : mapOf h (.mpc ks vs)=some (ks,vs):=Eq.trans rfl rfl
def Zq (h:Nat→Option Row) (y:Nat) (n:Int) (d:D) (fr:List Nat) (ks:List Int) (vs:List D):Option Row→Option dS
 | some r=>if r.fz=false∧fr.contains y=false then some ⟨.und,iY h fr++[(y,some ⟨r.v,r.ty,[.mpc (AU ks n) (H5 ks vs n d)],false,true,true⟩)]⟩ else none
 | none=>none
theorem KY {y v ty:Nat} {n:Int} {d:D} {fr:List Nat} {ks:List Int} {vs:List D} {cells:List D} {lst mp:Bool} : Zq h y n d fr ks vs (some ⟨v,ty,cells,false,lst,mp⟩)=if fr.contains y=false then some ⟨.und,iY h fr++[(y,some ⟨v,ty,[.mpc (AU ks n) (H5 ks vs n d)],false,true,true⟩)]⟩ else none:=by
 simp only[Zq,true_and]
def ZI (h:Nat→Option Row) (y:Nat) (n:Int) (d:D) (fr:List Nat):Option (List Int×List D)→Option dS
 | some (ks,vs)=>Zq h y n d fr ks vs (h y)
 | none=>none
theorem KX {y:Nat} {n:Int} {d:D} {fr:List Nat} {ks:List Int} {vs:List D} : ZI h y n d fr (some (ks,vs))=Zq h y n d fr ks vs (h y):=Eq.trans rfl rfl
def muE (h:Nat→Option Row) (y v:Nat) (n:Int):Option (D×List Nat)→Option dS
 | some (d,fr)=>ZI h y n d fr (ic h y v)
 | none=>none
theorem KW {y v:Nat} {n:Int} {d:D} {fr:List Nat} : muE h y v n (some (d,fr))=ZI h y n d fr (ic h y v):=Eq.trans rfl rfl
theorem L2 {k:IntKind} {n:Int} : xd h (.int k n)=some (.int k n,[]):=Eq.trans rfl rfl
theorem GV {b:Bool} : xd h (.bool b)=some (.bool b,[]):=Eq.trans rfl rfl
theorem L1 {xs:List D} : xd h (.agg xs)=some (.agg (xs.map canon),[]):=Eq.trans rfl rfl
def Zm (τ:Ty) (h:Nat→Option Row) (x v y:Nat):Option Row→Option dS
 | some r=>match r.cells with
  | [.alm y' v']=>if r.fz=true∧r.lst=false∧τ.size=1∧τ.ds.oY=false then some ⟨.mp y' v',[]⟩ else none
  | _=>none
 | none=>oC τ h x v y (kx h x v)
theorem Wb {τ:Ty} {x v y:Nat} : mw τ h (.pm x v y)=Zm τ h x v y (live h x v):=by
 simp only[mw]
 cases live h x v with
 | none=>rfl
 | some r =>
  obtain⟨v',ty,cells,fz,lst,mp⟩:=r
  rcases cells with _|⟨c,_|⟨c',cs⟩⟩<;>rfl
theorem Km {τ:Ty} {x v y:Nat} : Zm τ h x v y none=oC τ h x v y (kx h x v):=Eq.trans rfl rfl
def Zn (τ:Ty) (h:Nat→Option Row) (x y s n:Nat):Option Row→Option dS
 | some r=>if y=1000000+x∧r.mp=false∧r.lst=true∧r.cells.length=n*s∧τ.size=1 then some ⟨if τ.ds.oY then .agg [.sl false false n r.cells] else .sl false false n r.cells,iY h [y]⟩ else none
 | none=>none
theorem Tf {τ:Ty} {r:Row} {x v y s n:Nat} : oC τ h x v y (some (r,y,s,n))=Zn τ h x y s n (h y):=by
 simp only[oC,Zn,PK]
 cases h y with
 | none=>rfl
 | some q=>simp
theorem Ko {ty b:Nat} {ds:Ds} {z:List Value} {q:Bool} {x y s n e':Nat} {cells:List D} {fz:Bool} : Zn ⟨ds,1,b,z,q⟩ h x y s n (some ⟨e',ty,cells,fz,true,false⟩)=if y=1000000+x∧cells.length=n*s then some ⟨if ds.oY then .agg [.sl false false n cells] else .sl false false n cells,iY h [y]⟩ else none:=by
 simp[Zn]
def W2 (T:Nat→Option Ty) (x v k:Nat):Option (Row×Nat×Nat×Nat)→Option (Nat×Nat)→Option dS
 | some _,some (ft,0)=>match T ft with|some φ=>if φ.size=0 then none else some ⟨.pm x v k,[]⟩|none=>none
 | _,_=>none
theorem FT {T:Nat→Option Ty} {x v k ft:Nat} {r:Row×Nat×Nat×Nat} : W2 T x v k (some r) (some (ft,0))=match T ft with|some φ=>if φ.size=0 then none else some ⟨.pm x v k,[]⟩|none=>none:=Eq.trans rfl rfl
theorem SQ {T:Nat→Option Ty} {b c:Nat} {z:List Value} {q:Bool} {fs:List (Nat×Nat)} {x v k i:Nat} : dN T ⟨.struct fs,b,c,z,q⟩ h i (.pm x v k)=W2 T x v k (kx h x v) fs[i]?:=by
 simp only[dN,W2]
 cases kx h x v with
 | none=>rfl
 | some r=>simp only;generalize fs[i]? = z;rcases z with _|⟨ft,_|off⟩<;>first|rfl|(simp;done)|(simp only;cases T ft<;>rfl)
def PA (x y s oy n k : Nat) : Option Row → Option Row → Option dS
  | some r, some q => if oy = 0 ∧ r.cells.length = 1 ∧ r.fz = false ∧ r.lst = false ∧ q.fz = false ∧ q.lst = true ∧ q.cells.length = n * s ∧ x ≠ y ∧ k = 1000000 + x then
          some ⟨.und, [(y, none), (k, some ⟨0, q.ty, q.cells, false, true, false⟩), (x, some ⟨r.v, r.ty, [.ph k s n], false, false, true⟩)]⟩ else none
  | _, _ => none
theorem TX {ds:Ds} {b:Nat} {z:List Value} {q:Bool} {x v y vy s oy n k:Nat} : cZ ⟨ds,1,b,z,q⟩ h (.pm x v k) (.box1 y vy s oy n)=PA x y s oy n k (live h x v) (live h y vy):=by
 simp only[cZ,PA,PK,true_and]
 cases live h x v with
 | none=>rfl
 | some r=>cases live h y vy<;>rfl
theorem DE {x y s oy n k v ty e' ty':Nat} {c:D} {cells:List D} : PA x y s oy n k (some ⟨v,ty,[c],false,false,false⟩) (some ⟨e',ty',cells,false,true,false⟩)=if oy=0∧cells.length=n*s∧¬x=y∧k=1000000+x then
  some ⟨.und,[(y,none),(k,some ⟨0,ty',cells,false,true,false⟩),(x,some ⟨v,ty,[.ph k s n],false,false,true⟩)]⟩ else none:=by
 simp[PA]
theorem Kn {v ty y' v':Nat} {b k el:Nat} {z:List Value} {q mp:Bool} {x0 v0 y0:Nat} : Zm ⟨.map k el,1,b,z,q⟩ h x0 v0 y0 (some ⟨v,ty,[.alm y' v'],true,false,mp⟩)=some ⟨.mp y' v',[]⟩:=by
 simp[Zm,Ds.oY]
def VL (τ:Ty) (x y y' v':Nat) (m:Bool):Option Row→Option dS
 | some r=>if τ.size=1∧y'=y∧r.cells.length=1∧r.fz=false∧r.lst=false∧m then some ⟨.und,[(x,some ⟨r.v,r.ty,[.alm y' v'],true,false,false⟩)]⟩ else none
 | none=>none
theorem TW {τ:Ty} {x v y y' v':Nat} : cZ τ h (.pm x v y) (.mp y' v')=VL τ x y y' v' (ic h y v').isSome (live h x v):=by
 simp only[cZ,VL]
 cases live h x v<;>rfl
theorem GK {x y v' v ty:Nat} {c:D} {b:Nat} {ds:Ds} {z:List Value} {q mp:Bool} : VL ⟨ds,1,b,z,q⟩ x y y v' true (some ⟨v,ty,[c],false,false,mp⟩)=some ⟨.und,[(x,some ⟨v,ty,[.alm y v'],true,false,false⟩)]⟩:=by
 simp[VL]
theorem Wu {x v:Nat} : nm (.mp x v)=[x]:=Eq.trans rfl rfl
theorem Tq {ks:List Int} {vs:List D} : nm (.mpc ks vs)=[]:=Eq.trans rfl rfl
theorem Wv {x v y:Nat} : nm (.pm x v y)=[x,y]:=Eq.trans rfl rfl
def XX (x:Nat):Option (List Int×List D)→Option (D×List Nat)
 | some (ks,vs)=>some (.mpc ks vs,[x])
 | none=>none
theorem I7 {x:Nat} {ks:List Int} {vs:List D} : XX x (some (ks,vs))=some (.mpc ks vs,[x]):=Eq.trans rfl rfl
theorem OK {x v:Nat} : bY h (.mp x v)=XX x (ic h x v):=by
 simp only[bY,aT,XX]
 cases ic h x v<;>rfl
theorem I1 {ks:List Int} {vs:List D} : bY h (.mpc ks vs)=some (.mpc ks vs,[]):=Eq.trans rfl rfl
theorem Sk {x v:Nat} : aT h (.mp x v)=XX x (ic h x v):=by
 simp only[aT,XX]
 cases ic h x v<;>rfl
theorem OF {ks:List Int} {vs:List D} : aT h (.mpc ks vs)=some (.mpc ks vs,[]):=Eq.trans rfl rfl
theorem Sj {xs:List D} : aT h (.ip xs)=some (.ip xs,[]):=Eq.trans rfl rfl
theorem OG {x v o:Nat} : aT h (.ptr x v o)=XY x o (live h x v):=by
 simp only[aT]
 cases live h x v with
 | none=>rfl
 | some r=>simp only[XY]
def Zz (x y:Nat):Option (List Int×List D)→Option (D×List Nat)
 | some (ks,vs)=>some (.ip [.mpc ks vs],[x,y])
 | none=>none
theorem I8 {x y:Nat} {ks:List Int} {vs:List D} : Zz x y (some (ks,vs))=some (.ip [.mpc ks vs],[x,y]):=Eq.trans rfl rfl
def ZA (h:Nat→Option Row) (x y:Nat):Option Row→Option (D×List Nat)
 | some r=>match r.cells with
  | [.alm y' v']=>if r.fz=true∧r.lst=false∧y'=y then Zz x y (ic h y v') else none
  | _=>none
 | none=>none
theorem Ja {x y v' v ty:Nat} {mp:Bool} : ZA h x y (some ⟨v,ty,[.alm y v'],true,false,mp⟩)=Zz x y (ic h y v'):=by
 simp[ZA]
theorem Sl {x v y:Nat} : aT h (.pm x v y)=ZA h x y (live h x v):=by
 simp only[aT]
 cases live h x v with
 | none=>rfl
 | some r =>
  obtain⟨v',ty,cells,fz,lst,mp⟩:=r
  rcases cells with _|⟨c,_|⟨c',cs⟩⟩<;>rfl
theorem Pn {x v o:Nat} : ja (.ptr x v o)=true:=Eq.trans rfl rfl
theorem Tw {x v y:Nat} : ja (.pm x v y)=true:=Eq.trans rfl rfl
theorem Tu {xs:List D} : ja (.ip xs)=true:=Eq.trans rfl rfl
theorem Tv {x v:Nat} : ja (.mp x v)=true:=Eq.trans rfl rfl
theorem Pm {ks:List Int} {vs:List D} : ja (.mpc ks vs)=true:=Eq.trans rfl rfl
theorem SU {v ty:Nat} {cells:List D} {fz mp:Bool} : qm ⟨v,ty,cells,fz,true,mp⟩=⟨v,ty,cells,true,true,mp⟩:=by cases fz<;>rfl
theorem O1 {d:Nat} : aS.hint d=none:=Eq.trans rfl rfl
theorem J3 {f:Nat} {l:Bool} {G:Option (D×Row)→List D→Option (RK×Option Row)} {d:Nat} : (Am.ext Γ f l G).hint d=Γ.hint d:=Eq.trans rfl rfl
theorem F0 {d i:Nat} : (Am.keep d Γ).hint i=Γ.hint i:=Eq.trans rfl rfl
theorem FZ {d y i:Nat} : (Am.vX d y Γ).hint i=if i=d then some y else Γ.hint i:=Eq.trans rfl rfl
theorem J6 {d y i:Nat} : (Am.vX d y Γ).own i=Γ.own i:=Eq.trans rfl rfl
theorem CB {d y i:Nat} : (Am.vX d y Γ).lends i=Γ.lends i:=Eq.trans rfl rfl
theorem J7 {d y i:Nat} {lent:Option (D×Row)} {aai:List D} : (Am.vX d y Γ).sem i lent aai=Γ.sem i lent aai:=Eq.trans rfl rfl
theorem FR {ks:List Int} {vs:List D} : fY (.mpc ks vs)=false:=Eq.trans rfl rfl
theorem E7 {ks:List Int} {vs:List D} : canon (.mpc ks vs)=.mpc ks vs:=Eq.trans rfl rfl
theorem BK {ks:List Int} {vs:List D} : fw (.mpc ks vs)=.mpc ks vs:=Eq.trans rfl rfl
end
structure Mb {α:Type} (E:jX α) (C:List D) (o:Nat) (l:List α):Prop where
 fit:o+l.length*E.size≤C.length
 eq:(C.drop o).take (l.length*E.size)=ab E l
theorem Mb.split {α:Type} {E:jX α} {C:List D} {o:Nat} {l:List α} (F:Mb E C o l):C.drop o=ab E l++C.drop (o+l.length*E.size):=by
 rw[← List.drop_drop]
 conv=>lhs;rw[← List.take_append_drop (l.length*E.size) (C.drop o)]
 rw[F.eq]
theorem Mb.idx {α:Type} {E:jX α} {C:List D} {o:Nat} {l:List α} {i:Int} {x:α} (F:Mb E C o l) (h:P.idx l i=some x):o+i.toNat*E.size+E.size≤C.length∧∃rest,C.drop (o+i.toNat*E.size)=E.cells x++rest:=by
 have h1:=vb E h
 have h2:=F.fit
 refine⟨by omega,ab E (l.drop (i.toNat+1))++C.drop (o+l.length*E.size),?_⟩
 rw[← List.drop_drop,F.split,List.drop_append_of_le_length (by rw[cQ];omega),xN E h,List.append_assoc]
theorem Mb.tail {α:Type} {E:jX α} {C:List D} {o:Nat} {l m:List α} {a:Int} (F:Mb E C o l) (h:DA l a (l.length:Int)=some m):Mb E C (o+a.toNat*E.size) m:=by
 obtain⟨h1,h2,h3,h4,h5⟩:=Xn E h
 have h6:=F.fit
 have h7:a.toNat*E.size+m.length*E.size=l.length*E.size:=by rw[← Nat.add_mul];congr 1;omega
 refine⟨by omega,?_⟩
 rw[← List.drop_drop,F.split,List.drop_append_of_le_length (by rw[cQ];omega),List.take_append_of_le_length (by rw[List.length_drop,cQ];omega),h5]
theorem Y7:type_of% (ai @KO<|ai @KS<|ai @Kq<|ai @Ku<|ai @O8<|ai @Wr<|ai @Wq<|ai @KQ<|ai @F5<|ai @KY<|ai @KX<|ai @KW<|ai @L2<|ai @GV<|ai @L1<|ai @Wb<|ai @Kn<|ai @TW<|ai @GK<|ai @Wu<|ai @Tq<|@Wv):=⟨@KO,@KS,@Kq,@Ku,@O8,@Wr,@Wq,@KQ,@F5,@KY,@KX,@KW,@L2,@GV,@L1,@Wb,@Kn,@TW,@GK,@Wu,@Tq,@Wv⟩
theorem Y8:type_of% (ai @I7<|ai @OK<|ai @I1<|ai @Sk<|ai @OF<|ai @Sj<|ai @OG<|ai @I8<|ai @Ja<|ai @Sl<|ai @Pn<|ai @Tw<|ai @Tu<|ai @Tv<|ai @Pm<|ai @SV<|ai @SS<|ai @SU<|ai @O1<|ai @J3<|ai @F0<|ai @FZ<|ai @J6<|ai @CB<|ai @J7<|ai @Gi<|ai @Gh<|ai @FR<|ai @E7<|ai @BK<|ai @Ju<|@V2):=⟨@I7,@OK,@I1,@Sk,@OF,@Sj,@OG,@I8,@Ja,@Sl,@Pn,@Tw,@Tu,@Tv,@Pm,@SV,@SS,@SU,@O1,@J3,@F0,@FZ,@J6,@CB,@J7,@Gi,@Gh,@FR,@E7,@BK,@Ju,@V2⟩
theorem Y9:type_of% (ai @zG<|ai @zK<|ai @BT<|ai @BW<|ai @vO<|ai @vS<|ai @BS<|ai @BV<|ai @wv<|ai @yl<|ai @sQ<|ai @yk<|ai @R5<|ai @Oo<|@R6):=⟨@zG,@zK,@BT,@BW,@vO,@vS,@BS,@BV,@wv,@yl,@sQ,@yk,@R5,@Oo,@R6⟩
theorem Y6:type_of% (ai @Km<|ai @Tf<|ai @Ko<|ai @TX<|ai @DE<|ai @FT<|@SQ):=⟨@Km,@Tf,@Ko,@TX,@DE,@FT,@SQ⟩
theorem vi:type_of% (ai @Y7<|ai @Y8<|ai @Y6<|@Y9):=⟨@Y7,@Y8,@Y6,@Y9⟩
def RR (P:Program) (f:FuncId):Prop:=∀(blk off cap:Nat) (zs:List Int) (w:World),Go.Sort.Holds (Value.int .i64) w blk off zs.toArray→blk<w.heap.size→zs.length<4611686018427387904 →
 Calls P f #[.slice (some ⟨blk,off,none⟩) zs.length cap] w fun e w'=>e=.returned (.tuple #[])∧∃n os,w'=Go.Sort.grow (Go.Sort.putRow (Value.int .i64) (Go.Sort.ahead w n) blk off (gF zs).toArray) os
theorem ji (k:IntKind):∀(l:List Int) (j:Nat),(ab (eI k) l)[j]? = l[j]?.map fun n =>.int k n
 | [],j=>by simp[ab]
 | x::l,0=>by simp[ab,eI]
 | x::l,j+1=>by
  have:=ji k l j
  simp only[ab,xw,List.cons_append,List.nil_append,List.getElem?_cons_succ]
  exact this
theorem cl (k:IntKind) (l:List Int):(ab (eI k) l).length=l.length:=by rw[cQ];show l.length*1=_;omega
theorem uf {w:World} {b off:Nat} {d:List Int} {cs:Array Value} {ty:Nat} {fr:Nat×Nat} (h:w.heap[b]? = some (.cells cs ty fr)):(Go.Sort.putRow (Value.int .i64) w b off d.toArray).heap[b]? = some (.cells (Go.Sort.putCells (Value.int .i64) off d.toArray cs) ty fr):=by
 simp[Go.Sort.putRow,Go.Sort.mapBlock,Array.getElem?_modify,h,Go.Sort.onCells]
theorem k9 {w:World} {b c off:Nat} {d:List Int} (h:c≠b):(Go.Sort.putRow (Value.int .i64) w b off d.toArray).heap[c]? = w.heap[c]?:=by
 simp[Go.Sort.putRow,Go.Sort.mapBlock,Array.getElem?_modify,Ne.symm h]
theorem rO {off:Nat} {d:List Int} {cs:Array Value} {k:Nat} (hk:k<cs.size):(Go.Sort.putCells (Value.int .i64) off d.toArray cs).getD k undef=if off≤k∧k<off+d.length then .int .i64 (d.getD (k-off) 0) else cs.getD k undef:=by
 have h1:(Go.Sort.putCells (Value.int .i64) off d.toArray cs)[k]? = some (if off≤k∧k<off+d.length then .int .i64 (d.getD (k-off) 0) else cs[k]):=by
  simp only[Go.Sort.putCells,Array.getElem?_mapIdx,Array.getElem?_eq_getElem hk,Option.map_some,List.size_toArray]
  congr 1
  split
  ·rename_i hc
   congr 1
   have:k-off<d.length:=by omega
   simp[List.getD,this]
  ·rfl
 rw[Array.getD_eq_getD_getElem?,h1]
 simp[Array.getD_eq_getD_getElem?,hk]
theorem VJ {P:Program} {f:FuncId} {fn:Func} {ty:Nat} {F small:List Int→Option (List Int×Unit)} (hf:P.funcs[f]? = some fn) (hc:(fn.name == "runtime.NumGoroutine")=false∧fn.body.isNone=false)
  (hF:∀l,F l=if l.length<4611686018427387904 then some (gF l,()) else none) (hs:bH P f (Ry ty (eI .i64) UR (fun l (_:Unit)=>small l) (fun _:Unit =>.clean (.tup [])))) (h0:small []=some ([],())) (hS:RR P f) :
  bH P f (Ry ty (eI .i64) UR (fun l (_:Unit)=>F l) (fun _:Unit =>.clean (.tup []))) where
 callable:=⟨fn,hf,hc⟩
 calls lent aai rk out hg:=by
  obtain⟨pre,l,post,a,l',r,rfl,rfl,hr,rfl,rfl⟩:=KU hg
  rw[hF]at hr
  split at hr
  ·rename_i hlen
   cases hr
   by_cases hl:l=[]
   ·subst hl
    rw[zk]
    exact hs.calls _ _ _ _ (by rw[CS];simp[h0])
   ·intro w M go u0 vs hM hgoM hz hmp hrow hlv hargs
    have hpos:0<l.length:=List.length_pos_iff.2 hl
    have hvs:vs = #[]:=by
     have:=hargs.1
     simpa [UR] using this
    subst hvs
    cases go with
    | none =>
     have hce:pre++(ab (eI .i64) l++post)=[]:=hrow
     have:=congrArg List.length hce
     rw[List.length_append,List.length_append,cl,List.length_nil]at this
     omega
    | some g =>
     obtain⟨cs,h1,h2,h3⟩:=hrow
     simp only[List.length_append,cl]at h2
     have hcell:∀j,j<l.length→cs.getD (g.2+(pre.length+j)) undef=.int .i64 (l.getD j 0):=by
      intro j hj
      have hd:(pre++(ab (eI .i64) l++post))[pre.length+j]? = some (.int .i64 (l.getD j 0)):=by
       rw[List.getElem?_append_right (by omega),Nat.add_sub_cancel_left,List.getElem?_append_left (by rw[cl];exact hj),ji]
       simp[List.getD,hj]
      obtain⟨_,hp⟩:=h3 _ _ hd
      cases hu:cs.getD (g.2+(pre.length+j)) undef<;>rw[hu]at hp<;>cases hp
      rfl
     rcases hlv.2 ⟨0,0,[],false,false,false⟩ rfl rfl with⟨g',o',c,N,t,k0,k1,k2,k3,k4,k5⟩|⟨k0,_⟩
     ·cases k0
      obtain⟨rfl,k6⟩:=k2 (.inl (by omega))
      subst k1
      have hlt:g.1<w.heap.size:=(Array.getElem?_eq_some_iff.1 h1).1
      have hH:Go.Sort.Holds (Value.int .i64) w g.1 (g.2+pre.length) l.toArray:=by
       intro j hj
       simp only[List.size_toArray]at hj
       refine⟨?_,by simp[World.frozen?,h1]⟩
       have:=bz h1 (j:=g.2+pre.length+j) (by omega)
       rw[this,Nat.add_assoc,hcell j hj]
       simp[List.getD,hj]
      refine (hS g.1 (g.2+pre.length) c l w hH hlt hlen).mono fun e w' ⟨he,n,os,hw⟩ =>?_
      subst hw
      refine⟨.tuple #[],he,?_,?_,?_⟩
      ·refine⟨rfl,rfl,rfl,by simp[Go.Sort.ahead],fun k hk hn =>?_⟩
       have hkg:k≠g.1:=fun e=>hn ⟨g,rfl,e⟩
       rw[Go.Sort.heap_grow_old _ _ (by simpa [Go.Sort.ahead] using hk),k9 hkg]
       rfl
      ·have hnew:(Go.Sort.grow (Go.Sort.putRow (Value.int .i64) (Go.Sort.ahead w n) g.1 (g.2+pre.length) (gF l).toArray) os).heap[g.1]? = some (.cells (Go.Sort.putCells (Value.int .i64) (g.2+pre.length) (gF l).toArray cs) ty (0,0)):=by
        rw[Go.Sort.heap_grow_old _ _ (by simpa [Go.Sort.ahead] using hlt)]
        exact uf h1
       have hsz:(Go.Sort.putCells (Value.int .i64) (g.2+pre.length) (gF l).toArray cs).size=cs.size:=by simp[Go.Sort.putCells]
       refine⟨rfl,rfl,rfl,fun g' hg' =>?_,?_⟩
       ·cases hg'
        simp[World.shape?,hnew,h1,hsz]
       ·refine⟨_,hnew,?_,fun j d hj =>?_⟩
        ·simp only[List.length_append,cl,fP,hsz];exact h2
        ·have hjl:j<pre.length+(l.length+post.length):=by
          have:=(List.getElem?_eq_some_iff.1 hj).1
          simpa [cl,fP] using this
         have hrest:∀ {d:D} {u:Value},RP w (fun b=>M b∨mO (some g) b) d u→RP (Go.Sort.grow (Go.Sort.putRow (Value.int .i64) (Go.Sort.ahead w n) g.1 (g.2+pre.length) (gF l).toArray) os) (fun b=>M b∨mO (some g) b) d u:=by
          intro d u hu
          refine hu.keep fun b q1 q2=>⟨by simp[Go.Sort.ahead];omega,q2,?_⟩
          have hbg:b≠g.1:=fun e=>q2 (.inr ⟨g,rfl,e⟩)
          rw[Go.Sort.heap_grow_old _ _ (by simpa [Go.Sort.ahead] using q1),k9 hbg]
          rfl
         rw[rO (by omega),fP]
         by_cases hin:pre.length≤j∧j<pre.length+l.length
         ·rw[if_pos (by omega)]
          rw[List.getElem?_append_right (by omega),List.getElem?_append_left (by rw[cl,fP];omega),ji,Option.map_eq_some_iff]at hj
          obtain⟨z,hz,rfl⟩:=hj
          have e1:g.2+j-(g.2+pre.length)=j-pre.length:=by omega
          rw[e1]
          have e2:(gF l).getD (j-pre.length) 0=z:=by simp[List.getD,hz]
          rw[e2]
          exact⟨rfl,.int _ _⟩
         ·rw[if_neg (by omega)]
          have hj':(pre++(ab (eI .i64) l++post))[j]? = some d:=by
           by_cases hlo:j<pre.length
           ·rw[List.getElem?_append_left hlo]at hj ⊢
            exact hj
           ·rw[List.getElem?_append_right (by omega),List.getElem?_append_right (by rw[cl,fP];omega),cl,fP]at hj
            rw[List.getElem?_append_right (by omega),List.getElem?_append_right (by rw[cl];omega),cl]
            exact hj
          exact⟨(h3 j d hj').1,hrest (h3 j d hj').2⟩
      ·exact .tup [] [] rfl (fun j x hj=>by simp at hj)
     ·cases k0
  ·cases hr
end Go.Proofs.YtpkahnkoecbndaaGreatDoor.Am
namespace Go.Proofs.YtpkahnkoecbndaaGreatDoor.P
open Go.RowKit
set_option linter.unusedSimpArgs false
set_option linter.unusedVariables false
theorem wrap64 {x:Int} (h1 : -9223372036854775808≤x) (h2:x<9223372036854775808):IntKind.i64.wrap x=x:=by
 have key:IntKind.i64.wrap x=if x % 18446744073709551616≥9223372036854775808 then x % 18446744073709551616-18446744073709551616 else x % 18446744073709551616:=by
  unfold IntKind.wrap
  by_cases h:x % 18446744073709551616≥9223372036854775808
  ·rw[if_pos h];exact if_pos (by simpa [IntKind.bits,IntKind.signed] using h)
  ·rw[if_neg h];exact if_neg (by simpa [IntKind.bits,IntKind.signed] using h)
 rw[key]
 split<;>omega
theorem Ox (b:ByteArray):∀(n i:Nat) (r:List UInt8),b.size-i=n→ByteArray.toList.loop b i r=r.reverse++b.data.toList.drop i
 | 0,i,r,h=>by
  rw[ByteArray.toList.loop]
  have hb:b.data.toList.length=b.size:=Array.length_toList
  rw[if_neg (by omega),List.drop_eq_nil_of_le (by omega),List.append_nil]
 | n+1,i,r,h=>by
  rw[ByteArray.toList.loop]
  have hi:i<b.size:=by omega
  have hb:i<b.data.toList.length:=by rw[Array.length_toList];exact hi
  rw[if_pos hi,Ox b n (i+1) _ (by omega),List.drop_eq_getElem_cons hb]
  have hg:b.get! i=b.data.toList[i]:=by
   have:b.get! i=b.data[i]!:=rfl
   rw[this]
   have hd:i<b.data.size:=by simpa using hb
   rw[getElem!_pos b.data i hd]
   exact (Array.getElem_toList hd).symm
  rw[hg]
  simp
theorem EU (b:ByteArray):b.toList=b.data.toList:=by
 unfold ByteArray.toList
 rw[Ox b (b.size-0) 0 [] rfl]
 simp
theorem WT {a b:ByteArray} (h:a.toList=b.toList):a=b:=by
 rw[EU,EU]at h
 cases a;cases b
 simp only[ByteArray.mk.injEq]
 exact Array.ext' h
theorem VN {a b:ByteArray} : (a.toList==b.toList)=decide (a=b):=by
 by_cases h:a=b
 ·subst h;simp
 ·have:¬a.toList=b.toList:=fun h'=>h (WT h')
  simp[h,this]
theorem WS {a b:ByteArray} : (a==b)=decide (a=b):=by
 have e:(a==b)=(a.data==b.data):=by cases a;cases b;rfl
 rw[e]
 by_cases h:a=b
 ·subst h;simp
 ·have:¬a.data=b.data:=fun h'=>h (by cases a;cases b;simp only[ByteArray.mk.injEq];exact h')
  simp[h,this]
theorem tS {α:Type} {l:List α} {i:Int} {x:α} (h0:0≤i) (h:l[i.toNat]? = some x):P.idx l i=some x:=by
 have:=(List.getElem?_eq_some_iff.1 h).1
 unfold P.idx
 rw[if_pos ⟨h0,by omega⟩,h]
theorem A8 {α:Type} {l:List α} {i:Int} (h0:0≤i) (h:i<l.length):P.idx l i=some (l[i.toNat]'(by omega)):=tS h0 (List.getElem?_eq_getElem (by omega))
theorem b9 {α:Type} {l:List α} {i:Nat} (h:i<l.length):P.idx l (i:Int)=some (l[i]):=tS (by omega) (by simp[h])
theorem Bc {α:Type} {l:List α} {i:Nat} (h:i≤l.length):DA l 0 (i:Int)=some (l.take i):=by
 unfold DA
 rw[if_pos ⟨by omega,by omega,by omega⟩]
 simp
end Go.Proofs.YtpkahnkoecbndaaGreatDoor.P
namespace Go.Proofs.YtpkahnkoecbndaaGreatDoor.Am
open Go.RowKit Go.Deep Go.ChangeShapes Go.WideShapes
set_option linter.unusedSimpArgs false
set_option linter.unusedVariables false
def AH (T:Nat→Option Ty):Nat→Nat→List D→Prop
 | 0,_,_=>False
 | n+1,t,xs =>
  match T t with
  | none=>False
  | some τ=>xs.length=τ.size ∧
   match τ.ds with
   | .int k=>∃i,xs=[.int k i]∧(Lit.int k i).wf=true
   | .bool=>∃b,xs=[.bool b]
   | .str=>∃s:ByteArray,xs=[.str s]∧s.size≤140737488351232
   | .slice e=>∃len ys φ,xs=[.sl false false len ys]∧len*φ.bytes≤140737488351232∧T e=some φ∧ys.length=len*φ.size∧∀i,i<len→AH T n e ((ys.drop (i*φ.size)).take φ.size)
   | .struct fs=>∀f∈fs,∃φ,T f.1=some φ∧AH T n f.1 ((xs.drop f.2).take φ.size)
   | .arr m e=>∃φ,T e=some φ∧∀i,i<m→AH T n e ((xs.drop (i*φ.size)).take φ.size)
   | .map _ _=>False
   | .other=>False
def zW (T:Nat→Option Ty):Nat→List (Nat×Nat)→Nat→Bool
 | o,[],z=>o==z
 | o,(ft,off)::fs,z=>off==o&&match T ft with|some φ=>zW T (o+φ.size) fs z|none=>false
def QZ (T:Nat→Option Ty):Nat→Nat→Bool
 | 0,_=>false
 | n+1,t =>
  match T t with
  | none=>false
  | some τ =>
   match τ.ds with
   | .int _ | .bool | .str=>τ.size==1
   | .slice e=>τ.size==1&&QZ T n e&&(match T e with|some φ=>decide (0<φ.size)|none=>false)
   | .struct fs=>zW T 0 fs τ.size&&fs.all fun f=>QZ T n f.1
   | .arr m e=>QZ T n e&&(match T e with|some φ=>τ.size==m*φ.size|none=>false)
   | .map _ _=>false
   | .other=>false
def lG (w:World) (M:Nat→Prop) (xs:List D) (cs:List Value):Prop:=xs.length=cs.length∧∀(j:Nat) (x:D),xs[j]? = some x→aY x=true∧∃v,cs[j]? = some v∧RP w M x v
theorem lG.append {w:World} {M:Nat→Prop} {xs ys:List D} {cs ds:List Value} (h:lG w M xs cs) (k:lG w M ys ds):lG w M (xs++ys) (cs++ds):=by
 refine⟨by simp[h.1,k.1],fun j x hj =>?_⟩
 rw[List.getElem?_append]at hj ⊢
 rw[← h.1]
 split at hj
 ·rename_i hlt;rw[if_pos hlt];exact h.2 j x hj
 ·rename_i hlt;rw[if_neg hlt];exact k.2 _ x hj
theorem Cn {α:Type} (s:Nat):∀(ls:List (List α)),(∀l∈ls,l.length=s)→∀(i:Nat) (l:List α),ls[i]? = some l→(ls.flatten.drop (i*s)).take s=l
 | [],_,i,l,h=>by simp at h
 | a::ls,hl,0,l,h=>by
  simp only[List.getElem?_cons_zero,Option.some.injEq]at h
  subst h
  have:a.length=s:=hl a (by simp)
  simp[this]
 | a::ls,hl,i+1,l,h=>by
  have ha:a.length=s:=hl a (by simp)
  rw[List.flatten_cons,List.drop_append,List.drop_eq_nil_of_le (by rw[ha,Nat.succ_mul];omega),List.nil_append,ha,Nat.succ_mul,Nat.add_sub_cancel]
  exact Cn s ls (fun x hx=>hl x (List.mem_cons_of_mem _ hx)) i l h
theorem JG {α:Type} (s:Nat):∀(ls:List (List α)),(∀l∈ls,l.length=s)→ls.flatten.length=ls.length*s
 | [],_=>by simp
 | a::ls,hl=>by
  rw[List.flatten_cons,List.length_append,JG s ls (fun x hx=>hl x (List.mem_cons_of_mem _ hx)),hl a (by simp),List.length_cons,Nat.succ_mul]
  omega
section
variable {H:Type} {enc:TypeId×Value→H} {P:Program} {w:World} {base:Nat} {spare:Nat→Bool} {held:Bool} {T:Nat→Option Ty}
theorem dG.bytesOf {P:Program} {t:Nat} {τ:Ty} (h:dG P t τ):P.bytesOf t=τ.bytes:=by
 have:=h.info
 unfold Program.bytesOf
 cases hi:P.info? t with
 | none=>rw[hi]at this;simp at this
 | some i=>rw[hi]at this;simp only[Option.map_some,Option.some.injEq,Prod.mk.injEq]at this;simp[this.2.1]
def Reach (P:Program) (t:Nat) (d:DataW H):Prop:=∀k∈d.weights P t,k≤140737488351232
theorem zg {e:TypeId} : ∀(l:List (DataW H)) (j:Nat) (d:DataW H),l[j]? = some d→∀k∈d.weights P e,k∈DataW.weightsAll P e l
 | x::l,0,d,h,k,hk=>by
  simp only[List.getElem?_cons_zero,Option.some.injEq]at h
  subst h
  simp only[DataW.weightsAll,List.mem_append]
  exact .inl hk
 | x::l,j+1,d,h,k,hk=>by
  simp only[DataW.weightsAll,List.mem_append]
  exact .inr (zg l j d (by simpa using h) k hk)
 | [],j,d,h,k,hk=>by simp at h
theorem dG.cells {P:Program} {t:Nat} {τ:Ty} (h:dG P t τ):P.cellsOf t=τ.size:=by
 have:=h.info
 unfold Program.cellsOf
 cases hi:P.info? t with
 | none=>rw[hi]at this;simp at this
 | some i=>rw[hi]at this;simp only[Option.map_some,Option.some.injEq,Prod.mk.injEq]at this;simp[this.1]
theorem O4 {T:Nat→Option Ty} {w:World} {M:Nat→Prop} {cs:List Value} : ∀(fs:List (Nat×Nat)) (o z:Nat) (f:Nat×Nat→List D),zW T o fs z=true→cs.length=z →
  (∀p∈fs,∃φ,T p.1=some φ∧lG w M (f p) ((cs.drop p.2).take φ.size))→o≤z→∃xs,lG w M xs (cs.drop o)∧∀p∈fs,∃φ,T p.1=some φ∧o≤p.2∧(xs.drop (p.2-o)).take φ.size=f p
 | [],o,z,f,hl,hc,_,_=>by
  simp only[zW,beq_iff_eq]at hl
  refine⟨[],⟨by rw[List.length_drop,hc,hl];simp,fun j x hj=>by simp at hj⟩,fun p hp=>by simp at hp⟩
 | (ft,off)::fs,o,z,f,hl,hc,hp,hoz=>by
  simp only[zW,Bool.and_eq_true,beq_iff_eq]at hl
  obtain⟨rfl,hl⟩:=hl
  obtain⟨φ,hφ,hR⟩:=hp (ft,off) (by simp)
  simp only[hφ]at hl
  have hz:off+φ.size≤z:=by
   have:∀(fs:List (Nat×Nat)) (o:Nat),zW T o fs z=true→o≤z:=by
    intro fs
    induction fs with
    | nil=>intro o h;simp only[zW,beq_iff_eq]at h;omega
    | cons p fs ih =>
     intro o h
     obtain⟨a,b⟩:=p
     simp only[zW,Bool.and_eq_true]at h
     have h2:=h.2
     split at h2
     ·have:=ih _ h2;omega
     ·cases h2
   exact this fs _ hl
  obtain⟨xs,hx,hxs⟩:=O4 fs (off+φ.size) z f hl hc (fun p h=>hp p (List.mem_cons_of_mem _ h)) hz
  have hfl:(f (ft,off)).length=φ.size:=by
   rw[hR.1,List.length_take,List.length_drop,hc];omega
  refine⟨f (ft,off)++xs,?_,fun p h =>?_⟩
  ·have:=hR.append hx
   rw[← List.drop_drop,List.take_append_drop]at this
   exact this
  ·rcases List.mem_cons.1 h with rfl|h
   ·exact⟨φ,hφ,Nat.le_refl _,by simp only[Nat.sub_self,List.drop_zero];rw[List.take_append_of_le_length (by omega),List.take_of_length_le (by omega)]⟩
   ·obtain⟨ψ,h1,h2,h3⟩:=hxs p h
    refine⟨ψ,h1,by omega,?_⟩
    rw[List.drop_append,List.drop_eq_nil_of_le (by omega),List.nil_append,hfl]
    have:p.2-off-φ.size=p.2-(off+φ.size):=by omega
    rw[this,h3]
theorem lG.one {w:World} {M:Nat→Prop} {x:D} {v:Value} (hp:aY x=true) (h:RP w M x v):lG w M [x] [v]:=by
 refine⟨rfl,fun j y hj =>?_⟩
 match j,hj with
 | 0,hj=>simp only[List.getElem?_cons_zero,Option.some.injEq]at hj;subst hj;exact⟨hp,v,rfl,h⟩
 | j+1,hj=>simp at hj
theorem lG.flat {w:World} {M:Nat→Prop} {cs:List Value} {s:Nat} : ∀(ls:List (List D)) (o:Nat),(∀(i:Nat) l,ls[i]? = some l→lG w M l ((cs.drop (o+i*s)).take s))→(∀l∈ls,l.length=s)→lG w M ls.flatten ((cs.drop o).take (ls.length*s))
 | [],o,_,_=>⟨by simp,fun j x hj=>by simp at hj⟩
 | a::ls,o,h,hl=>by
  have h0:=h 0 a rfl
  have h1:=lG.flat ls (o+s) (fun i l hi=>by
   have:=h (i+1) l (by simpa using hi)
   rw[Nat.succ_mul]at this
   rw[show o+s+i*s=o+(i*s+s) by omega]
   exact this) (fun l hx=>hl l (List.mem_cons_of_mem _ hx))
  have:=h0.append h1
  rw[Nat.zero_mul,Nat.add_zero]at this
  rw[List.flatten_cons,List.length_cons,Nat.succ_mul,Nat.add_comm (ls.length*s) s,List.take_add,List.drop_drop]
  exact this
theorem WV (hT:lC P T) {M:Nat→Prop} (hM:∀b,base≤b→b<w.heap.size→¬M b):∀(n t fuel:Nat) (cs:List Value) (x:DataW H×List MemPlace),QZ T n t=true→DataW.trod enc P w base spare held fuel t cs=some x→Reach P t x.1→∃xs,AH T n t xs∧lG w M xs cs:=by
 intro n
 induction n with
 | zero=>intro t fuel cs x h;cases h
 | succ n ih =>
  intro t fuel cs x hok h hw
  unfold QZ at hok
  unfold AH
  cases hτ:T t with
  | none=>rw[hτ]at hok;cases hok
  | some τ =>
   rw[hτ]at hok
   simp only at hok ⊢
   obtain⟨d,hd,hc⟩:=under hT hτ
   cases hds:τ.ds with
   | int k =>
    rw[hds]at hok hc
    simp only[beq_iff_eq]at hok
    have hd':=xo hc
    subst hd'
    obtain⟨i,rfl,_,hw⟩:=DataW.trod_int hd h
    exact⟨[.int k i],⟨by rw[hok];rfl,i,rfl,hw⟩,.one rfl (.int k i)⟩
   | bool =>
    rw[hds]at hok hc
    simp only[beq_iff_eq]at hok
    have hd':=uH hc
    subst hd'
    obtain⟨b,rfl,_⟩:=DataW.trod_bool hd h
    exact⟨[.bool b],⟨by rw[hok];rfl,b,rfl⟩,.one rfl (.bool b)⟩
   | str =>
    rw[hds]at hok hc
    simp only[beq_iff_eq]at hok
    have hd':=qg hc
    subst hd'
    obtain⟨s,rfl,rfl,hs⟩:=DataW.trod_string hd h
    have hs':s.size≤140737488351232:=by
     have:=hw s.data.toList.length (by simp[DataW.weights])
     simpa using this
    exact⟨[.str s],⟨by rw[hok];rfl,s,rfl,hs'⟩,.one rfl (.str s)⟩
   | map _ _=>rw[hds]at hok;cases hok
   | other=>rw[hds]at hok;cases hok
   | struct fs =>
    rw[hds]at hok hc
    simp only[Bool.and_eq_true,List.all_eq_true]at hok
    obtain⟨F,rfl,hF⟩:=ia hc
    obtain⟨ys,m,_,rfl,hlen,hyl,hf⟩:=DataW.trod_struct hd h
    have hwy:∀(i:Nat) (f:Field) y,F[i]? = some f→ys[i]? = some y→Reach P f.type y.1:=by
     intro i f y hfi hyi k hk
     refine hw k ?_
     simp only[DataW.weights,hd]
     exact DataW.weights_mem_each (j:=i) (t:=f.type) (d:=y.1) (by rw[List.getElem?_map,Array.getElem?_toList,hfi];rfl) (by simp[hyi]) k hk
    rw[(hT t τ hτ).cells]at hlen
    have hone:∀p:Nat×Nat,∃zs,p∈fs→∃φ,T p.1=some φ∧AH T n p.1 zs∧lG w M zs ((cs.drop p.2).take φ.size):=by
     intro p
     by_cases hp:p∈fs
     ·have hokp:=hok.2 p hp
      rw[← hF]at hp
      obtain⟨f,hfm,rfl⟩:=List.mem_map.1 hp
      obtain⟨i,hi⟩:=List.mem_iff_getElem?.1 hfm
      have h1:=hf i f (by simpa using hi)
      simp only at hokp ⊢
      cases hφ:T f.type with
      | none=>cases n with
       | zero=>cases hokp
       | succ n=>simp only[QZ,hφ]at hokp;cases hokp
      | some φ =>
       rw[(hT _ φ hφ).cells]at h1
       have hi':i<ys.length:=by
        have:=(List.getElem?_eq_some_iff.1 hi).1
        simp only[Array.length_toList]at this
        omega
       rw[List.getElem?_eq_getElem hi']at h1
       obtain⟨zs,hz1,hz2⟩:=ih _ _ _ _ hokp h1 (hwy i f _ (by simpa using hi) (List.getElem?_eq_getElem hi'))
       exact⟨zs,fun _=>⟨φ,rfl,hz1,hz2⟩⟩
     ·exact⟨[],fun h=>(hp h).elim⟩
    obtain⟨f,hf2⟩:=Classical.axiomOfChoice hone
    obtain⟨xs,hx,hparts⟩:=O4 fs 0 τ.size f hok.1 hlen (fun p hp=>by obtain⟨φ,a,_,b⟩:=hf2 p hp;exact⟨φ,a,b⟩) (Nat.zero_le _)
    rw[List.drop_zero]at hx
    refine⟨xs,⟨by rw[hx.1,hlen],fun p hp =>?_⟩,hx⟩
    obtain⟨φ,h1,_,h3⟩:=hparts p hp
    obtain⟨ψ,g1,g2,_⟩:=hf2 p hp
    rw[h1]at g1
    cases g1
    rw[Nat.sub_zero]at h3
    exact⟨φ,h1,by rw[h3];exact g2⟩
   | arr m e =>
    rw[hds]at hok hc
    simp only[Bool.and_eq_true]at hok
    have hd':=xn hc
    subst hd'
    obtain⟨ys,k,_,rfl,hlen,hyl,hf⟩:=DataW.trod_array hd h
    have hwy:∀(i:Nat) y,ys[i]? = some y→Reach P e y.1:=by
     intro i y hyi k hk
     refine hw k ?_
     simp only[DataW.weights,hd]
     exact zg _ i y.1 (by simp[hyi]) k hk
    rw[(hT t τ hτ).cells]at hlen
    obtain⟨hok1,hok2⟩:=hok
    split at hok2
    ·rename_i φ hφ
     simp only[beq_iff_eq]at hok2
     have hone:∀i:Nat,∃zs,i<m→AH T n e zs∧lG w M zs ((cs.drop (i*φ.size)).take φ.size):=by
      intro i
      by_cases hi:i<m
      ·have h1:=hf i hi
       rw[(hT _ φ hφ).cells,List.getElem?_eq_getElem (by omega)]at h1
       obtain⟨zs,hz1,hz2⟩:=ih _ _ _ _ hok1 h1 (hwy i _ (List.getElem?_eq_getElem (by omega)))
       exact⟨zs,fun _=>⟨hz1,hz2⟩⟩
      ·exact⟨[],fun h=>(hi h).elim⟩
     obtain⟨f,hf2⟩:=Classical.axiomOfChoice hone
     have hls:∀l∈(List.range m).map f,l.length=φ.size:=by
      intro l hl
      obtain⟨i,hi,rfl⟩:=List.mem_map.1 hl
      have hi:=List.mem_range.1 hi
      rw[(hf2 i hi).2.1,List.length_take,List.length_drop,hlen,hok2]
      have:(i+1)*φ.size≤m*φ.size:=Nat.mul_le_mul_right _ hi
      rw[Nat.succ_mul]at this
      omega
     have hget:∀(i:Nat) l,((List.range m).map f)[i]? = some l→i<m∧l=f i:=by
      intro i l hl
      rw[List.getElem?_map,Option.map_eq_some_iff]at hl
      obtain⟨j,hj,rfl⟩:=hl
      obtain⟨hj1,hj2⟩:=List.getElem?_eq_some_iff.1 hj
      simp only[List.length_range]at hj1
      simp only[List.getElem_range]at hj2
      exact⟨hj1,by rw[hj2]⟩
     have hall:lG w M ((List.range m).map f).flatten ((cs.drop 0).take (((List.range m).map f).length*φ.size)):=by
      refine lG.flat _ 0 (fun i l hl =>?_) hls
      obtain⟨hi,rfl⟩:=hget i l hl
      rw[Nat.zero_add]
      exact (hf2 i hi).2
     rw[List.length_map,List.length_range,List.drop_zero,List.take_of_length_le (by omega)]at hall
     refine⟨_,⟨by rw[hall.1,hlen],φ,hφ,fun i hi =>?_⟩,hall⟩
     have hi':((List.range m).map f)[i]? = some (f i):=by simp[hi]
     rw[Cn φ.size _ hls i _ hi']
     exact (hf2 i hi).1
    ·cases hok2
   | slice e =>
    rw[hds]at hok hc
    simp only[Bool.and_eq_true,beq_iff_eq]at hok
    have hd':=fS hc
    subst hd'
    obtain⟨⟨hone,hoke⟩,hpos⟩:=hok
    split at hpos
    ·rename_i φ hφ
     simp only[decide_eq_true_eq]at hpos
     rcases open_slice hd h with⟨rfl,_⟩|⟨a,len,cap,m,k,D',Pl,rfl,hb,hl,hm,hmm,rfl,hi⟩
     ·refine⟨[.sl false false 0 []],⟨by rw[hone];rfl,0,[],φ,rfl,by omega,hφ,by simp,fun i hi=>by omega⟩,.one rfl ?_⟩
      exact .sl none 0 false false 0 [] (fun _=>undef) (Nat.le_refl _) (Nat.zero_le _) (fun h=>by cases h) (fun _=>⟨rfl,rfl⟩) (fun h=>by cases h) (fun h=>(h rfl).elim) (fun j x hj=>by simp at hj) (fun x hx=>by simp at hx)
     ·have hlm:len≤m:=by rw[hmm];split<;>omega
      have hwl:len*φ.bytes≤140737488351232:=by
       have h1:=hw ((((List.range len).map D').length+((List.range (m-len)).map fun j=>D' (len+j)).length)*P.bytesOf e) (by simp[DataW.weights,hd])
       rw[(hT _ φ hφ).bytesOf]at h1
       simp only[List.length_map,List.length_range]at h1
       exact Nat.le_trans (Nat.mul_le_mul_right _ (by omega)) h1
      have hwy:∀i,i<len→Reach P e (D' i):=by
       intro i hi' k hk
       refine hw k ?_
       simp only[DataW.weights,hd,List.mem_cons,List.mem_append]
       exact .inr (.inl (zg _ i (D' i) (by simp[hi']) k hk))
      have hone':∀i:Nat,∃zs,i<len→AH T n e zs∧zs.length=φ.size∧∀(j:Nat) z,zs[j]? = some z→aY z=true∧∃v,w.cell? (a.add (i*φ.size+j))=some v∧RP w M z v:=by
       intro i
       by_cases hil:i<len
       ·obtain⟨cs',hc1,hc2⟩:=hi i (by omega)
        rw[(hT _ φ hφ).cells]at hc1
        obtain⟨_,g1,g2⟩:=World.cells?_some hc1
        obtain⟨zs,hz1,hz2⟩:=ih _ _ _ _ hoke hc2 (hwy i hil)
        refine⟨zs,fun _=>⟨hz1,by rw[hz2.1,g1],fun j z hj =>?_⟩⟩
        obtain⟨p1,v,p2,p3⟩:=hz2.2 j z hj
        refine⟨p1,v,?_,p3⟩
        have hj':j<φ.size:=by rw[← g1];exact (List.getElem?_eq_some_iff.1 p2).1
        rw[← Go.Deep.add_add,g2 j hj',p2]
       ·exact⟨[],fun h=>(hil h).elim⟩
      obtain⟨f,hf2⟩:=Classical.axiomOfChoice hone'
      have hls:∀l∈(List.range len).map f,l.length=φ.size:=by
       intro l hl
       obtain⟨i,hi,rfl⟩:=List.mem_map.1 hl
       exact (hf2 i (List.mem_range.1 hi)).2.1
      have hfl:((List.range len).map f).flatten.length=len*φ.size:=by rw[JG φ.size _ hls];simp
      have hseg:∀i,i<len→(((List.range len).map f).flatten.drop (i*φ.size)).take φ.size=f i:=fun i hi=>Cn φ.size _ hls i (f i) (by simp[hi])
      have hat:∀(p:Nat) z,((List.range len).map f).flatten[p]? = some z→aY z=true∧∃v,w.cell? (a.add p)=some v∧RP w M z v:=by
       intro p z hp
       have hpl:=(List.getElem?_eq_some_iff.1 hp).1
       rw[hfl]at hpl
       have hq:p / φ.size<len:=Nat.div_lt_of_lt_mul (by rwa [Nat.mul_comm])
       have hr:p % φ.size<φ.size:=Nat.mod_lt _ hpos
       have he:p / φ.size*φ.size+p % φ.size=p:=Nat.div_add_mod' p φ.size
       have hz:(f (p / φ.size))[p % φ.size]? = some z:=by
        rw[← hseg _ hq,List.getElem?_take,if_pos hr,List.getElem?_drop,he]
        exact hp
       have:=(hf2 _ hq).2.2 _ z hz
       rw[he]at this
       exact this
      refine⟨[.sl false false len ((List.range len).map f).flatten],⟨by rw[hone];rfl,len,_,φ,rfl,hwl,hφ,hfl,fun i hi=>by rw[hseg i hi];exact (hf2 i hi).1⟩,.one rfl ?_⟩
      refine .sl (some a) cap false false len _ (fun j=>(w.cell? (a.add j)).getD undef) hl hm (fun h=>by cases h) (fun h=>by cases h) (fun h=>by cases h) (fun hne =>?_) (fun j z hj =>?_) (fun z hz =>?_)
      ·have h0:0<((List.range len).map f).flatten.length:=List.length_pos_iff.2 hne
       obtain⟨_,v,hv,_⟩:=hat 0 _ (List.getElem?_eq_getElem h0)
       obtain⟨b,o,sp⟩:=a
       have hsp:sp=none:=by
        unfold World.cell? at hv
        split at hv
        ·split at hv
         ·cases hv
         ·rename_i h;simpa [Addr.add] using h
        ·cases hv
       subst hsp
       have hbs:b<w.heap.size:=by
        unfold World.cell? at hv
        split at hv
        ·rename_i hh;exact (Array.getElem?_eq_some_iff.1 hh).1
        ·cases hv
       refine⟨b,o,rfl,hbs,hM b hb hbs,fun j hj =>?_⟩
       obtain⟨_,v,hv,_⟩:=hat j _ (List.getElem?_eq_getElem hj)
       have ha:Addr.add ⟨b,o,none⟩ j=⟨b,o+j,none⟩:=by
        unfold Addr.add
        split
        ·rename_i h0;rw[h0];rfl
        ·rfl
       have hv':w.cell? ⟨b,o+j,none⟩=some v:=by rw[← ha];exact hv
       rw[hv']
       simp only[hv,Option.getD_some]
      ·obtain⟨_,v,hv,hr⟩:=hat j z hj
       rw[hv]
       exact hr
      ·obtain⟨j,hj⟩:=List.mem_iff_getElem?.1 hz
       exact (hat j z hj).1
    ·cases hpos
def qH (T:Nat→Option Ty) (n t:Nat) (d:D):Prop :=
 match T t with
 | some τ=>if τ.ds.oY then ∃xs,d=.agg xs∧AH T n t xs else AH T n t [d]
 | none=>False
theorem lG.agg {w:World} {M:Nat→Prop} {xs:List D} {cs:Array Value} (h:lG w M xs cs.toList):RP w M (.agg xs) (.agg cs):=by
 have:=RP.agg (w:=w) (M:=M) xs cs.toList h.1.symm (fun j x hj=>by
  obtain⟨_,v,h1,h2⟩:=h.2 j x hj
  simp only[List.getD,h1,Option.getD_some]
  exact h2) (fun x hx=>by
  obtain⟨j,hj⟩:=List.mem_iff_getElem?.1 hx
  exact (h.2 j x hj).1)
 simpa using this
theorem lG.single {w:World} {M:Nat→Prop} {xs:List D} {v:Value} (h:lG w M xs [v]):∃x,xs=[x]∧RP w M x v:=by
 match xs,h with
 | [],h=>have:=h.1;simp at this
 | [x],h=>obtain⟨_,u,h1,h2⟩:=h.2 0 x rfl;simp only[List.getElem?_cons_zero,Option.some.injEq]at h1;subst h1;exact⟨x,rfl,h2⟩
 | x::y::xs,h=>have:=h.1;simp at this
theorem U6 (hT:lC P T) {M:Nat→Prop} (hM:∀b,base≤b→b<w.heap.size→¬M b) {n t b0:Nat} {v:Value} {d:DataW H} {ps:List MemPlace} (hok:QZ T n t=true) (hv:Value.okWide P w .any b0 t v) (h:DataW.Trod enc P w base spare held t v d ps) (hw:Reach P t d) :
  ∃x,qH T n t x∧RP w M x v:=by
 obtain⟨fuel,h⟩:=h
 obtain⟨xs,h1,h2⟩:=WV hT hM n t fuel _ _ hok h hw
 unfold qH
 cases n with
 | zero=>cases hok
 | succ n =>
 cases hτ:T t with
 | none=>simp only[QZ,hτ]at hok;cases hok
 | some τ =>
  simp only
  obtain⟨d',hd,hc⟩:=under hT hτ
  cases hds:τ.ds with
  | int k =>
   rw[hds]at hc
   have hd':=xo hc
   subst hd'
   obtain⟨i,rfl⟩:=okWide_int hd hv
   obtain⟨x,rfl,hx⟩:=lG.single (v := .int k i) h2
   exact⟨x,by simpa [Ds.oY] using h1,hx⟩
  | bool =>
   rw[hds]at hc
   have hd':=uH hc
   subst hd'
   obtain⟨i,rfl⟩:=okWide_bool hd hv
   obtain⟨x,rfl,hx⟩:=lG.single (v := .bool i) h2
   exact⟨x,by simpa [Ds.oY] using h1,hx⟩
  | str =>
   rw[hds]at hc
   have hd':=qg hc
   subst hd'
   obtain⟨i,rfl⟩:=okWide_string hd hv
   obtain⟨x,rfl,hx⟩:=lG.single (v := .string i) h2
   exact⟨x,by simpa [Ds.oY] using h1,hx⟩
  | slice e =>
   rw[hds]at hc
   have hd':=fS hc
   subst hd'
   obtain⟨a,len,cap,rfl⟩:=okWide_slice hd hv
   obtain⟨x,rfl,hx⟩:=lG.single (v := .slice a len cap) h2
   exact⟨x,by simpa [Ds.oY] using h1,hx⟩
  | struct fs =>
   rw[hds]at hc
   obtain⟨F,rfl,_⟩:=ia hc
   obtain⟨cs,rfl,_⟩:=okWide_struct hd hv
   exact⟨.agg xs,by simpa [Ds.oY] using h1,lG.agg h2⟩
  | arr m e =>
   rw[hds]at hc
   have hd':=xn hc
   subst hd'
   have:∃cs,v=.agg cs:=by
    unfold Value.okWide at hv
    rw[hd]at hv
    obtain⟨cs,h,_⟩:=hv
    exact⟨cs,h⟩
   obtain⟨cs,rfl⟩:=this
   exact⟨.agg xs,by simpa [Ds.oY] using h1,lG.agg h2⟩
  | map _ _=>simp only[QZ,hτ,hds]at hok;cases hok
  | other=>simp only[QZ,hτ,hds]at hok;cases hok
theorem EY (hT:lC P T) {M:Nat→Prop} (hM:∀b,base≤b→b<w.heap.size→¬M b) {n b0:Nat} : ∀(ts:List TypeId) (vs:List Value) (ds:List (DataW H)) (ps:List MemPlace),DataW.TrodAll enc P w base spare held ts vs ds ps →
  (∀(j:Nat) t v,ts[j]? = some t→vs[j]? = some v→Value.okWide P w .any b0 t v)→(∀t∈ts,QZ T n t=true)→(∀k∈DataW.weightsEach P ts ds,k≤140737488351232) →
  ∃ar:List D,ar.length=vs.length∧(∀(j:Nat) x,ar[j]? = some x→∃v,vs[j]? = some v∧RP w M x v)∧ar.length=ts.length∧∀(j:Nat) t,ts[j]? = some t→∃x,ar[j]? = some x∧qH T n t x
 | [],[],[],ps,_,_,_,_=>⟨[],rfl,fun j x hj=>by simp at hj,rfl,fun j t hj=>by simp at hj⟩
 | t::ts,v::vs,d::ds,ps,h,hv,hok,hw=>by
  obtain⟨p,q,h1,h2,_⟩:=h
  obtain⟨x,hx1,hx2⟩:=U6 hT hM (hok t (by simp)) (hv 0 t v rfl rfl) h1 (fun k hk=>hw k (by simp only[DataW.weightsEach,List.mem_append];exact .inl hk))
  obtain⟨ar,g1,g2,g3,g4⟩:=EY hT hM ts vs ds q h2 (fun j t' v' a b=>hv (j+1) t' v' (by simpa using a) (by simpa using b)) (fun t' ht=>hok t' (List.mem_cons_of_mem _ ht)) (fun k hk=>hw k (by simp only[DataW.weightsEach,List.mem_append];exact .inr hk))
  refine⟨x::ar,by simp[g1],fun j y hj =>?_,by simp[g3],fun j t' hj =>?_⟩
  ·cases j with
   | zero=>simp only[List.getElem?_cons_zero,Option.some.injEq]at hj;subst hj;exact⟨v,rfl,hx2⟩
   | succ j=>simpa using g2 j y (by simpa using hj)
  ·cases j with
   | zero=>simp only[List.getElem?_cons_zero,Option.some.injEq]at hj;subst hj;exact⟨x,rfl,hx1⟩
   | succ j=>simpa using g4 j t' (by simpa using hj)
 | [],[],_::_,_,h,_,_,_=>h.elim
 | [],_::_,_,_,h,_,_,_=>h.elim
 | _::_,[],_,_,h,_,_,_=>h.elim
 | _::_,_::_,[],_,h,_,_,_=>h.elim
end
end Go.Proofs.YtpkahnkoecbndaaGreatDoor.Am
namespace Go.Proofs.YtpkahnkoecbndaaGreatDoor.Am
open Go.RowKit Go.Deep Go.ChangeShapes Go.WideShapes Go.ChangeAt
set_option linter.unusedSimpArgs false
set_option linter.unusedVariables false
section
variable {H:Type} {enc:TypeId×Value→H} {P:Program}
theorem EF {f:Func} {s:ChangeSpec} {apart fresh handsOn again:Bool} {W W':World} {args:Array Value} {v:Value} {ds gs:List (DataW H)} {before pa pv:List MemPlace}
  (hW:DataW.Whole enc P f.params.toList s.vars apart W args.toList ds gs before)
  (hres:∀(b:Nat) (sp:Nat→Bool) (hd:Bool),DataW.TrodAll enc P W' b sp hd f.resultTypes.toList (v.resultList f.resultTypes.size) (s.fn H (ds++gs)).results [])
  (hargs:∀sp:Nat→Bool,(∀p∈before,sp p.block=true)→DataW.TrodAll enc P W' 0 sp true f.params.toList args.toList (s.fn H (ds++gs)).args pa)
  (hvars:∀sp:Nat→Bool,(∀p∈before,sp p.block=true)→DataW.TrodVars enc P W' sp s.vars (s.fn H (ds++gs)).vars pv)
  (hps:before=pa++pv) (hb:Below W.heap.size W W')
  (hok:∀(j:Nat) (t:TypeId) (r:Value),f.resultTypes[j]? = some t→(v.resultList f.resultTypes.size)[j]? = some r→Value.okWide P W' .any 0 t r) :
  s.post enc P f apart fresh handsOn again W args v W':=by
 have hlt:∀p∈before,p.block<W.heap.size:=fun p hp=>hW.lt p hp
 have hold:∀p∈before,(fun b=>decide (b<W.heap.size)) p.block=true:=fun p hp=>by simpa using hlt p hp
 refine⟨ds,gs,before,[],pa,pv,hW,hres _ _ _,hargs _ hold,hvars _ hold,World.keptBut_mono (fun p hp=>⟨hp,?_⟩) (hb.frame (·∈before)),fun _ =>?_⟩
 ·rw[hps,List.mem_append]at hp
  exact Or.inr hp
 ·obtain⟨_,_,_,_,_,hz,hn⟩:=hW
  refine⟨hok,_,_,([]++pa)++pv,⟨[]++pa,pv,trodAll_append (hargs _ (fun _ _=>rfl)) (hres _ _ _),hvars _ (fun _ _=>rfl),rfl,?_,?_⟩,?_⟩
  ·intro b off hp
   have hin:MemPlace.cell b off∈before:=by rw[hps];simpa using hp
   rw[hb.frozen (hlt _ hin)]
   exact hz b off hin
  ·intro ha
   have:=hn ha
   rw[hps]at this
   simpa using this
  ·intro p hp _
   rw[hps]
   simpa using hp
theorem wx (hl:laidOutB P=true) {W W':World} {sp':Nat→Bool} : ∀ {ts:List TypeId} {vs:List Value} {ds:List (DataW H)} {ps:List MemPlace},(∀t∈ts,P.readableRec t=true∧t<P.types.size)→DataW.TrodAll enc P W 0 (fun _=>true) true ts vs ds ps →
  (∀p∈ps,W.sameAt W' p)→(∀p∈ps,sp' p.block=true)→DataW.TrodAll enc P W' 0 sp' true ts vs ds ps
 | [],[],[],_,_,h,_,_=>h
 | t::ts,v::vs,d::ds,_,hr,⟨p,q,h1,h2,e⟩,hs,hp=>by
  subst e
  have ht:=hr t (by simp)
  exact⟨p,q,WideElems.Trod_stays hl ht.1 ht.2 h1 (fun x hx=>hs x (List.mem_append_left _ hx)) (fun x hx=>hp x (List.mem_append_left _ hx)),
   wx hl (fun t ht=>hr t (List.mem_cons_of_mem _ ht)) h2 (fun x hx=>hs x (List.mem_append_right _ hx)) (fun x hx=>hp x (List.mem_append_right _ hx)),rfl⟩
end
theorem TJ {H:Type} {enc:TypeId×Value→H} {C:Checked} {T:Nat→Option Ty} {f:FuncId} {fn:Func} {s:ChangeSpec} {apart fresh handsOn again:Bool} {tb n:Nat} (hT:lC C.prog T)
  (hl:laidOutB C.prog=true) (hr:(fn.params.toList.all fun t=>C.prog.readableRec t&&decide (t<C.prog.types.size)&&QZ T n t)=true)
  (hres:fn.resultTypes = #[tb]) (htb:C.prog.underlying tb=some .bool) (hv:s.vars=[])
  (hs:∀ds:List (DataW H),ds.length=fn.params.toList.length→(s.fn H ds).results=[.lit (.bool true)]∧(s.fn H ds).args=ds∧(s.fn H ds).vars=[])
  (law:∀ar:List D,ar.length=fn.params.toList.length→(∀(j:Nat) t,fn.params.toList[j]? = some t→∃x,ar[j]? = some x∧qH T n t x)→L9 C.prog f ar (.bool true))
  {W:World} {base:Nat} {args:Array Value} {ds gs:List (DataW H)} {before:List MemPlace}
  (hval:∀(j:Nat) t v,fn.params[j]? = some t→args[j]? = some v→Value.okWide C.prog W .any base t v) (hW:DataW.Whole enc C.prog fn.params.toList s.vars apart W args.toList ds gs before)
  (hsz:(DataW.weightsEach C.prog (fn.params.toList++s.plain.varTypes C.prog) (ds++gs)).all (·≤reachBytes)=true) (hTab:GY W (fun _=>False)) :
  Calls C.prog f args W fun e W'=>∃v,e=.returned v∧s.post enc C.prog fn apart fresh handsOn again W args v W':=by
 have hW':=hW
 obtain⟨p,q,hA,hV,rfl,hfz,hnd⟩:=hW
 rw[hv]at hV
 obtain⟨rfl,rfl⟩:=trodVars_none hV
 simp only[List.all_eq_true,Bool.and_eq_true,decide_eq_true_eq]at hr
 obtain⟨ar,h1,h2,h3,h4⟩:=EY (P:=C.prog) hT (M:=fun _=>False) (fun b _ _ h=>h) (n:=n) (b0:=base) fn.params.toList args.toList ds p hA
  (fun j t v a b=>hval j t v (by simpa using a) (by simpa using b)) (fun t ht=>(hr t ht).2) (fun k hk=>by
   rw[List.all_eq_true]at hsz
   have hv0:s.plain.varTypes C.prog=[]:=by unfold ChangeSpec.plain;simp only[hv];rfl
   rw[hv0,List.append_nil,List.append_nil]at hsz
   have h:=hsz k hk
   rw[decide_eq_true_eq]at h
   exact h)
 refine (law ar h3 h4 W (fun _=>False) args (fun b h=>h.elim) ⟨by simpa using h1.symm,fun j x hj =>?_,hTab⟩).mono fun e W' hG =>?_
 ·obtain⟨v,g1,g2⟩:=h2 j x hj
  have g1':args[j]? = some v:=by simpa using g1
  rw[Array.getD_eq_getD_getElem?,g1']
  exact g2
 ·obtain⟨v,rfl,hb,hv1⟩:=hG
  have hv2:RP W' (fun _=>False) (.bool true) v:=hv1
  cases hv2
  have hlen:ds.length=fn.params.toList.length:=by
   have:∀ {ts:List TypeId} {vs:List Value} {ds:List (DataW H)} {ps:List MemPlace},DataW.TrodAll enc C.prog W 0 (fun _=>true) true ts vs ds ps→ds.length=ts.length:=by
    intro ts
    induction ts with
    | nil=>intro vs ds ps h;cases vs<;>cases ds<;>first|rfl|exact h.elim
    | cons t ts ih =>
     intro vs ds ps h
     cases vs with
     | nil=>exact h.elim
     | cons v vs=>cases ds with
      | nil=>exact h.elim
      | cons d ds=>obtain⟨_,_,_,h2,_⟩:=h;simp[ih h2]
   exact this hA
  obtain⟨e1,e2,e3⟩:=hs ds hlen
  refine⟨_,rfl,EF (pa:=p) (pv:=[]) hW' ?_ ?_ ?_ (by simp) hb ?_⟩
  ·intro b sp hd
   rw[List.append_nil,e1,hres]
   exact trodAll_mk1 ⟨1,by simp[DataW.trod,htb,Value.cells]⟩
  ·intro sp hsp
   rw[List.append_nil,e2]
   refine wx hl (fun t ht=>(hr t ht).1) hA (fun x hx=>hb.same (hW'.lt x (by simpa using hx))) (fun x hx=>hsp x (by simpa using hx))
  ·intro sp _
   rw[List.append_nil,e3,hv]
   rfl
  ·exact ok_one hres rfl (by simp[Value.okWide,htb,Cell.okWide,Cell.ok])
theorem TK {H:Type} {enc:TypeId×Value→H} {C:Checked} {os:Os} {T:Nat→Option Ty} {f:FuncId} {fn:Func} {s:ChangeSpec} {conds:List PathCond} {apart fresh handsOn again:Bool} {tb n:Nat} {X:World→Array Value→Prop}
  (hX:∀(w w':World) (args:Array Value),w.heap=w'.heap→X w args→X w' args) (hTab:∀(w:World) (args:Array Value),X w args→GY w (fun _=>False))
  (hT:lC C.prog T) (own:ownKnob C.prog.godebug=none) (started:os.Started) (noInit:C.prog.inits.idxOf? f=none) (hfn:C.prog.funcs[f]? = some fn)
  (witness:∃(w:World) (tape:Tape) (i:Input),w.os=os∧(w.forCall tape i).Shaped C.prog∧i.vars=[]∧Input.okWide C.prog (w.forCall tape i) .any w.heap.size f i ∧
   ((s.pre enc C.prog fn conds apart (w.forCall tape i).memory i.args∧X (w.forCall tape i).memory i.args)∧sizedMet enc C.prog fn (OpenSpec.ofChange s) apart (w.forCall tape i).memory i.args)∧({} : Assume).holds C.prog (lone (Frame.enter C.prog f i.args .normal) [] (w.forCall tape i)))
  (hl:laidOutB C.prog=true) (hr:(fn.params.toList.all fun t=>C.prog.readableRec t&&decide (t<C.prog.types.size)&&QZ T n t)=true)
  (hres:fn.resultTypes = #[tb]) (htb:C.prog.underlying tb=some .bool) (hv:s.vars=[])
  (hs:∀ds:List (DataW H),ds.length=fn.params.toList.length→(s.fn H ds).results=[.lit (.bool true)]∧(s.fn H ds).args=ds∧(s.fn H ds).vars=[])
  (law:∀ar:List D,ar.length=fn.params.toList.length→(∀(j:Nat) t,fn.params.toList[j]? = some t→∃x,ar[j]? = some x∧qH T n t x)→L9 C.prog f ar (.bool true)) :
  ReturnsInHanded {} C os f .any (fun w args=>(s.pre enc C.prog fn conds apart w args∧X w args)∧sizedMet enc C.prog fn (OpenSpec.ofChange s) apart w args) (s.post enc C.prog fn apart fresh handsOn again):=by
 refine returnsInHanded_of_change_and hX own started noInit hfn witness ?_
 intro W base args ds gs before hval hW _ hsz hx _
 exact TJ hT hl hr hres htb hv hs law hval hW hsz (hTab W args hx)
end Go.Proofs.YtpkahnkoecbndaaGreatDoor.Am
namespace Go.Proofs.YtpkahnkoecbndaaGreatDoor.Am
open Go.RowKit
set_option linter.unusedSimpArgs false
set_option linter.unusedVariables false
theorem XV {T:Nat→Option Ty} {n t:Nat} {ar:List D} (h:ar.length=[t].length) (hs:∀(j:Nat) u,[t][j]? = some u→∃x,ar[j]? = some x∧qH T n u x):∃a,ar=[a]∧qH T n t a:=by
 match ar,h with
 | [a],_=>obtain⟨x,h1,h2⟩:=hs 0 t rfl;cases h1;exact⟨a,rfl,h2⟩
theorem XW {T:Nat→Option Ty} {n t:Nat} {ts:List Nat} {ar:List D} (h:ar.length=(t::ts).length) (hs:∀(j:Nat) u,(t::ts)[j]? = some u→∃x,ar[j]? = some x∧qH T n u x) :
  ∃a aai,ar=a::aai∧qH T n t a∧aai.length=ts.length∧∀(j:Nat) u,ts[j]? = some u→∃x,aai[j]? = some x∧qH T n u x:=by
 match ar,h with
 | a::aai,h =>
  obtain⟨x,h1,h2⟩:=hs 0 t rfl
  cases h1
  exact⟨a,aai,rfl,h2,by simpa using h,fun j u hu=>by simpa using hs (j+1) u (by simpa using hu)⟩
section
variable {T:Nat→Option Ty} {n t:Nat} {τ:Ty} {d:D}
theorem U2 {k:IntKind} (h:qH T (n+1) t d) (hτ:T t=some τ) (hd:τ.ds=.int k):∃i,d=.int k i∧(Lit.int k i).wf=true:=by
 simp only[qH,hτ,hd,Ds.oY,Bool.false_eq_true,if_false,AH]at h
 obtain⟨_,i,hi,hw⟩:=h
 cases hi
 exact⟨i,rfl,hw⟩
theorem Mj {fs:List (Nat×Nat)} (h:qH T n t d) (hτ:T t=some τ) (hd:τ.ds=.struct fs):∃xs,d=.agg xs∧AH T n t xs:=by
 simp only[qH,hτ,hd,Ds.oY,if_true]at h
 exact h
theorem Qe {e:Nat} (h:qH T n t d) (hτ:T t=some τ) (hd:τ.ds=.slice e):AH T n t [d]:=by
 simp only[qH,hτ,hd,Ds.oY,Bool.false_eq_true,if_false]at h
 exact h
theorem VP {k:IntKind} {xs:List D} (h:AH T (n+1) t xs) (hτ:T t=some τ) (hd:τ.ds=.int k):∃i,xs=[.int k i]∧(Lit.int k i).wf=true:=by
 simp only[AH,hτ,hd]at h
 exact h.2
theorem VQ {xs:List D} (h:AH T (n+1) t xs) (hτ:T t=some τ) (hd:τ.ds=.str):∃s:ByteArray,xs=[.str s]∧s.size≤140737488351232:=by
 simp only[AH,hτ,hd]at h
 exact h.2
theorem Ro {e:Nat} {φ:Ty} {xs:List D} (h:AH T (n+1) t xs) (hτ:T t=some τ) (hd:τ.ds=.slice e) (hφ:T e=some φ) :
  ∃len ys,xs=[.sl false false len ys]∧len*φ.bytes≤140737488351232∧ys.length=len*φ.size∧∀i,i<len→AH T n e ((ys.drop (i*φ.size)).take φ.size):=by
 simp only[AH,hτ,hd]at h
 obtain⟨_,len,ys,ψ,h1,h3,h4,h5,h6⟩:=h
 rw[hφ]at h4
 cases h4
 exact⟨len,ys,h1,h3,h5,h6⟩
theorem NW {fs:List (Nat×Nat)} {xs:List D} (h:AH T (n+1) t xs) (hτ:T t=some τ) (hd:τ.ds=.struct fs):xs.length=τ.size∧∀f∈fs,∃φ,T f.1=some φ∧AH T n f.1 ((xs.drop f.2).take φ.size):=by
 simp only[AH,hτ,hd]at h
 exact h
end
end Go.Proofs.YtpkahnkoecbndaaGreatDoor.Am
namespace Go.Proofs.YtpkahnkoecbndaaGreatDoor.Am
open Go.RowKit Go.Proofs.YtpkahnkoecbndaaGreatDoor.P
set_option linter.unusedSimpArgs false
set_option linter.unusedVariables false
def DT {α:Type} (T:Nat→Option Ty) (n t:Nat) (E:jX α) (ok:α→Prop):Prop:=(∃φ,T t=some φ∧φ.size=E.size)∧∀xs,AH T n t xs→∃x,xs=E.cells x∧ok x
section
variable {T:Nat→Option Ty} {n t:Nat} {τ:Ty}
theorem opI {k:IntKind} (hτ:T t=some τ) (hd:τ.ds=.int k) (hs:τ.size=1):DT T (n+1) t (eI k) (fun i=>(Lit.int k i).wf=true):=⟨⟨τ,hτ,hs⟩,fun _ h=>VP h hτ hd⟩
theorem Yh (hτ:T t=some τ) (hd:τ.ds=.str) (hs:τ.size=1):DT T (n+1) t fX (fun s=>s.size≤140737488351232):=⟨⟨τ,hτ,hs⟩,fun _ h=>VQ h hτ hd⟩
theorem WB {α:Type} (E:jX α) (ok:α→Prop):∀(len:Nat) (ys:List D),ys.length=len*E.size→(∀i,i<len→∃x,(ys.drop (i*E.size)).take E.size=E.cells x∧ok x)→∃l:List α,l.length=len∧ys=ab E l∧∀x∈l,ok x
 | 0,ys,hl,_=>⟨[],rfl,by simpa [ab] using hl,fun x hx=>by simp at hx⟩
 | len+1,ys,hl,h=>by
  obtain⟨x,hx,hok⟩:=h 0 (by omega)
  obtain⟨l,h1,h2,h3⟩:=WB E ok len (ys.drop E.size) (by rw[List.length_drop,hl,Nat.succ_mul];omega) (fun i hi=>by
   obtain⟨y,hy,hy2⟩:=h (i+1) (by omega)
   refine⟨y,?_,hy2⟩
   rw[List.drop_drop]
   rw[Nat.succ_mul,Nat.add_comm]at hy
   exact hy)
  rw[Nat.zero_mul,List.drop_zero]at hx
  refine⟨x::l,by simp[h1],?_,fun y hy =>?_⟩
  ·rw[aP,← h2,← hx,List.take_append_drop]
  ·rcases List.mem_cons.1 hy with rfl|hy
   ·exact hok
   ·exact h3 y hy
theorem Vz {α:Type} {E:jX α} {ok:α→Prop} {e:Nat} (hτ:T t=some τ) (hd:τ.ds=.slice e) (hs:τ.size=1) {B:Nat} (hB:(T e).map (·.bytes)=some B) (he:DT T n e E ok):DT T (n+1) t (qG E) (fun l=>l.length*B≤140737488351232∧∀x∈l,ok x):=by
 obtain⟨⟨φ,hφ,hz⟩,hx⟩:=he
 have hb:φ.bytes=B:=by rw[hφ]at hB;simpa using hB
 refine⟨⟨τ,hτ,hs⟩,fun xs h =>?_⟩
 obtain⟨len,ys,h1,h2,h3,h4⟩:=Ro h hτ hd hφ
 rw[hz]at h3 h4
 rw[hb]at h2
 obtain⟨l,k1,k2,k3⟩:=WB E ok len ys h3 fun i hi=>hx _ (h4 i hi)
 subst k1 k2
 exact⟨l,h1,h2,k3⟩
def Zj {α:Type} (T:Nat→Option Ty) (n:Nat) (fs:List (Nat×Nat)) (o:Nat) (E:jX α) (ok:α→Prop):Prop :=
 ∀xs:List D,xs.length=o+E.size→(∀f∈fs,∃φ,T f.1=some φ∧AH T n f.1 ((xs.drop f.2).take φ.size))→∃x,xs.drop o=E.cells x∧ok x
theorem Q4 {α:Type} {E:jX α} {ok:α→Prop} {ft o:Nat} (h:DT T n ft E ok):Zj T n [(ft,o)] o E ok:=by
 obtain⟨⟨φ,hφ,hz⟩,hx⟩:=h
 intro xs hl hf
 obtain⟨ψ,h1,h2⟩:=hf (ft,o) (by simp)
 cases hφ.symm.trans h1
 rw[List.take_of_length_le (by rw[List.length_drop];omega)]at h2
 exact hx _ h2
theorem H4 {α β:Type} {E:jX α} {ok:α→Prop} {E':jX β} {ok':β→Prop} {ft o o':Nat} {fs:List (Nat×Nat)} (h:DT T n ft E ok) (ho:o'=o+E.size) (h':Zj T n fs o' E' ok'):Zj T n ((ft,o)::fs) o (kQ E E') (fun x=>ok x.1∧ok' x.2):=by
 subst ho
 obtain⟨⟨φ,hφ,hz⟩,hx⟩:=h
 intro xs hl hf
 obtain⟨ψ,h1,h2⟩:=hf (ft,o) (by simp)
 cases hφ.symm.trans h1
 obtain⟨x,hx1,hx2⟩:=hx _ h2
 obtain⟨y,hy1,hy2⟩:=h' xs (by rw[hl];show o+(E.size+E'.size)=_;omega) fun f hf'=>hf f (List.mem_cons_of_mem _ hf')
 refine⟨(x,y),?_,hx2,hy2⟩
 show xs.drop o=E.cells x++E'.cells y
 rw[← hx1,← hy1,← hz,← List.drop_drop,List.take_append_drop]
theorem XH {α β:Type} {E:jX β} {ok:β→Prop} {f:α→β} {hf:∀x y,f x=f y→x=y} {g:β→α} {fs:List (Nat×Nat)} (hτ:T t=some τ) (hd:τ.ds=.struct fs) (hs:τ.size=E.size) (hg:∀y,f (g y)=y) (h:Zj T n fs 0 E ok):DT T (n+1) t (AJ E f hf) (fun x=>ok (f x)):=by
 refine⟨⟨τ,hτ,hs⟩,fun xs hx =>?_⟩
 obtain⟨h1,h2⟩:=NW hx hτ hd
 obtain⟨y,h3,h4⟩:=h xs (by rw[h1,hs,Nat.zero_add]) h2
 refine⟨g y,?_,?_⟩
 ·show xs=E.cells (f (g y))
  rw[hg,← h3,List.drop_zero]
 ·show ok (f (g y))
  rw[hg];exact h4
def XQ {α:Type} (T:Nat→Option Ty) (n t:Nat) (A:Arg α) (ok:α→Prop):Prop:=∀d,qH T n t d→∃x,d=A.d x∧ok x
theorem oaI {k:IntKind} (hτ:T t=some τ) (hd:τ.ds=.int k):XQ T (n+1) t (aI k) (fun i=>(Lit.int k i).wf=true):=fun _ h=>U2 h hτ hd
theorem ZJ {α:Type} {E:jX α} {ok:List α→Prop} {e:Nat} (hτ:T t=some τ) (hd:τ.ds=.slice e) (hE:DT T n t (qG E) ok):XQ T n t (iE E) ok:=fun d h=>by
 obtain⟨x,h1,h2⟩:=hE.2 _ (Qe h hτ hd)
 simp only[yO,List.cons.injEq,and_true]at h1
 exact⟨x,h1,h2⟩
theorem ZZ {α:Type} {E:jX α} {ok:α→Prop} {fs:List (Nat×Nat)} (hτ:T t=some τ) (hd:τ.ds=.struct fs) (hE:DT T n t E ok):XQ T n t (cJ E) ok:=fun d h=>by
 obtain⟨xs,rfl,h1⟩:=Mj h hτ hd
 obtain⟨x,h1,h2⟩:=hE.2 _ h1
 exact⟨x,by rw[h1];rfl,h2⟩
def RM {α:Type} (T:Nat→Option Ty) (n:Nat) (ts:List Nat) (A:mP α) (ok:α→Prop):Prop:=∀ar:List D,ar.length=ts.length→(∀(j:Nat) u,ts[j]? = some u→∃x,ar[j]? = some x∧qH T n u x)→∃x,ar=A.ds x∧ok x
theorem ZK {α:Type} {A:Arg α} {ok:α→Prop} (h:XQ T n t A ok):RM T n [t] (dJ A) ok:=fun ar hl hs=>by
 obtain⟨a,rfl,ha⟩:=XV hl hs
 obtain⟨x,rfl,hx⟩:=h a ha
 exact⟨x,rfl,hx⟩
theorem Xe {α β:Type} {A:Arg α} {ok:α→Prop} {B:mP β} {ok':β→Prop} {ts:List Nat} (h:XQ T n t A ok) (h':RM T n ts B ok'):RM T n (t::ts) (ec A B) (fun x=>ok x.1∧ok' x.2):=fun ar hl hs=>by
 obtain⟨a,ar,rfl,ha,hl',hs'⟩:=XW hl hs
 obtain⟨x,rfl,hx⟩:=h a ha
 obtain⟨y,rfl,hy⟩:=h' ar hl' hs'
 exact⟨(x,y),rfl,hx,hy⟩
theorem W9 {P:Program} {f:FuncId} {α:Type} {A:mP α} {F:α→Option Bool} {ok:α→Prop} {ts:List Nat} (ho:RM T n ts A ok) (hG:bH P f (eL A F (fun r =>.clean (.bool r)))) (h:∀x,ok x→F x=some true) (ar:List D) (hl:ar.length=ts.length)
  (hs:∀(j:Nat) u,ts[j]? = some u→∃x,ar[j]? = some x∧qH T n u x):L9 P f ar (.bool true):=by
 obtain⟨x,rfl,hx⟩:=ho ar hl hs
 refine hG.calls none _ _ none ?_
 rw[aK,h x hx]
 rfl
end
end Go.Proofs.YtpkahnkoecbndaaGreatDoor.Am
namespace Go.Proofs.YtpkahnkoecbndaaGreatDoor.P
open Go.RowKit
set_option linter.unusedSimpArgs false
set_option linter.unusedVariables false
def CG (n:Int):ByteArray:=⟨(Lib.itoa n).toArray⟩
def Ya (n:Int):Option ByteArray:=if -9223372036854775808≤n∧n≤9223372036854775807 then some (CG n) else none
def iZ (l:List Int):List UInt8:=l.flatMap fun x=>Lib.itoa x++[59]
def ng (l:List Int):List UInt8:=Lib.itoa l.length++(91::(iZ l++[93]))
def Ph (l:List Int):Option ByteArray:=if (∀x∈l,-9223372036854775808≤x∧x≤9223372036854775807)∧l.length*8≤140737488351232∧(ng l).length≤140737488355328 then some ⟨(ng l).toArray⟩ else none
def OO (l:List Int):Option (List Int):=if l.length≤9223372036854775807 then some (Lib.compact l) else none
def Be (l:List Int):Option (List Int):=some l
def yg (l:List Int):Option (List Int):=if l.length*8≤140737488351232 then some (gF l) else none
def W6 {α:Type} (bytes:Nat) (l:List α) (i:Int) (xs:List α):Option (List α):=if 0≤i∧i≤l.length∧0<xs.length∧(l.length+xs.length)*bytes≤140737488355328 then some (l.take i.toNat++(xs++l.drop i.toNat)) else none
def z7 {α:Type} (mk:ByteArray→Int→Int→Int→Int→α) (val bl:α→Int) (l:List α) (p:Int×Int):Option α:=(P.idx l p.1).bind fun x=>(P.idx l p.2).bind fun y=>some (mk ⟨#[]⟩ (IntKind.i64.wrap (val x+val y)) (IntKind.i64.wrap (bl x+bl y)) p.1 p.2)
def Iw {α:Type} (_:List α) (x:α):Option α:=some x
end Go.Proofs.YtpkahnkoecbndaaGreatDoor.P
namespace Go.Proofs
open Go.Shelf
def Tryz.Kj:Go.Shelf.Ren:=⟨fun|189=>69|125=>107|257=>106|128=>148|129=>149|294=>139|295=>140|296=>141|297=>142|298=>143|299=>144|216=>145|300=>146|301=>147|328=>170|329=>171|330=>172|331=>173|332=>174|215=>166|343=>180|n=>n,fun|28=>25|3=>3|46=>141|0=>0|51=>176|53=>178|4=>4|183=>170|182=>169|131=>160|5=>5|9=>9|218=>185|222=>189|228=>195|229=>196|n=>n,fun|n=>n⟩
theorem Tryz.Hu:Go.Proofs.Lays.n189 Tryz.prog Tryz.Kj:={
 mixed:=by kernel_rfl
 f125:=Tryz.func107.trans (congrArg some (by kernel_rfl))
 f128:=Tryz.func148.trans (congrArg some (by kernel_rfl))
 f129:=Tryz.func149.trans (congrArg some (by kernel_rfl))
 f189:=Tryz.func69.trans (congrArg some (by kernel_rfl))
 f215:=Tryz.func166.trans (congrArg some (by kernel_rfl))
 f216:=Tryz.func145.trans (congrArg some (by kernel_rfl))
 f257:=Tryz.func106.trans (congrArg some (by kernel_rfl))
 f294:=Tryz.func139.trans (congrArg some (by kernel_rfl))
 f295:=Tryz.func140.trans (congrArg some (by kernel_rfl))
 f296:=Tryz.func141.trans (congrArg some (by kernel_rfl))
 f297:=Tryz.func142.trans (congrArg some (by kernel_rfl))
 f298:=Tryz.func143.trans (congrArg some (by kernel_rfl))
 f299:=Tryz.func144.trans (congrArg some (by kernel_rfl))
 f300:=Tryz.func146.trans (congrArg some (by kernel_rfl))
 f301:=Tryz.func147.trans (congrArg some (by kernel_rfl))
 f328:=Tryz.func170.trans (congrArg some (by kernel_rfl))
 f329:=Tryz.func171.trans (congrArg some (by kernel_rfl))
 f330:=Tryz.func172.trans (congrArg some (by kernel_rfl))
 f331:=Tryz.func173.trans (congrArg some (by kernel_rfl))
 f332:=Tryz.func174.trans (congrArg some (by kernel_rfl))
 f343:=Tryz.func180.trans (congrArg some (by kernel_rfl))
 t0:=Tryz.underlying0
 a0:=Tryz.isAgg0
 z0:=Tryz.sizeOf0
 v0:=Tryz.zeroValue0
 t3:=Tryz.underlying3
 a3:=Tryz.isAgg3
 z3:=Tryz.sizeOf3
 v3:=Tryz.zeroValue3
 t4:=Tryz.underlying4
 a4:=Tryz.isAgg4
 z4:=Tryz.sizeOf4
 v4:=Tryz.zeroValue4
 t5:=Tryz.underlying5
 a5:=Tryz.isAgg5
 z5:=Tryz.sizeOf5
 v5:=Tryz.zeroValue5
 t9:=Tryz.underlying9
 a9:=Tryz.isAgg9
 z9:=Tryz.sizeOf9
 v9:=Tryz.zeroValue9
 t28:=Tryz.underlying25
 a28:=Tryz.isAgg25
 z28:=Tryz.sizeOf25
 v28:=Tryz.zeroValue25
 t46:=Tryz.underlying141
 a46:=Tryz.isAgg141
 z46:=Tryz.sizeOf141
 v46:=Tryz.zeroValue141
 t51:=Tryz.underlying176
 a51:=Tryz.isAgg176
 z51:=Tryz.sizeOf176
 v51:=Tryz.zeroValue176
 t53:=Tryz.underlying178
 a53:=Tryz.isAgg178
 z53:=Tryz.sizeOf178
 v53:=Tryz.zeroValue178
 t131:=Tryz.underlying160
 a131:=Tryz.isAgg160
 z131:=Tryz.sizeOf160
 v131:=Tryz.zeroValue160
 t182:=Tryz.underlying169
 a182:=Tryz.isAgg169
 z182:=Tryz.sizeOf169
 v182:=Tryz.zeroValue169
 t183:=Tryz.underlying170
 a183:=Tryz.isAgg170
 z183:=Tryz.sizeOf170
 v183:=Tryz.zeroValue170
 t218:=Tryz.underlying185
 a218:=Tryz.isAgg185
 z218:=Tryz.sizeOf185
 v218:=Tryz.zeroValue185
 t222:=Tryz.underlying189
 a222:=Tryz.isAgg189
 z222:=Tryz.sizeOf189
 v222:=Tryz.zeroValue189
 t228:=Tryz.underlying195
 a228:=Tryz.isAgg195
 z228:=Tryz.sizeOf195
 v228:=Tryz.zeroValue195
 t229:=Tryz.underlying196
 a229:=Tryz.isAgg196
 z229:=Tryz.sizeOf196
 v229:=Tryz.zeroValue196 }
def Tryz.Hv:Go.Shelf.Ren:=⟨fun|171=>121|243=>161|246=>179|283=>181|284=>182|285=>183|286=>184|129=>149|317=>185|318=>186|319=>187|320=>188|337=>189|338=>190|n=>n,fun|3=>3|9=>9|2=>2|4=>4|171=>198|0=>0|53=>178|37=>148|5=>5|173=>200|212=>204|51=>176|20=>20|213=>205|46=>141|232=>206|233=>207|n=>n,fun|17=>0|18=>1|19=>2|n=>n⟩
theorem Tryz.Te:Go.Proofs.LaysM.n171 Tryz.prog Tryz.Hv:={
 mixed:=by kernel_rfl
 f129:=Tryz.func149.trans (congrArg some (by kernel_rfl))
 f171:=Tryz.func121.trans (congrArg some (by kernel_rfl))
 f243:=Tryz.func161.trans (congrArg some (by kernel_rfl))
 f246:=Tryz.func179.trans (congrArg some (by kernel_rfl))
 f283:=Tryz.func181.trans (congrArg some (by kernel_rfl))
 f284:=Tryz.func182.trans (congrArg some (by kernel_rfl))
 f285:=Tryz.func183.trans (congrArg some (by kernel_rfl))
 f286:=Tryz.func184.trans (congrArg some (by kernel_rfl))
 f317:=Tryz.func185.trans (congrArg some (by kernel_rfl))
 f318:=Tryz.func186.trans (congrArg some (by kernel_rfl))
 f319:=Tryz.func187.trans (congrArg some (by kernel_rfl))
 f320:=Tryz.func188.trans (congrArg some (by kernel_rfl))
 f337:=Tryz.func189.trans (congrArg some (by kernel_rfl))
 f338:=Tryz.func190.trans (congrArg some (by kernel_rfl))
 t0:=Tryz.underlying0
 a0:=Tryz.isAgg0
 z0:=Tryz.sizeOf0
 v0:=Tryz.zeroValue0
 t2:=Tryz.underlying2
 a2:=Tryz.isAgg2
 z2:=Tryz.sizeOf2
 v2:=Tryz.zeroValue2
 t3:=Tryz.underlying3
 a3:=Tryz.isAgg3
 z3:=Tryz.sizeOf3
 v3:=Tryz.zeroValue3
 t4:=Tryz.underlying4
 a4:=Tryz.isAgg4
 z4:=Tryz.sizeOf4
 v4:=Tryz.zeroValue4
 t5:=Tryz.underlying5
 a5:=Tryz.isAgg5
 z5:=Tryz.sizeOf5
 v5:=Tryz.zeroValue5
 t9:=Tryz.underlying9
 a9:=Tryz.isAgg9
 z9:=Tryz.sizeOf9
 v9:=Tryz.zeroValue9
 t20:=Tryz.underlying20
 a20:=Tryz.isAgg20
 z20:=Tryz.sizeOf20
 v20:=Tryz.zeroValue20
 t37:=Tryz.underlying148
 a37:=Tryz.isAgg148
 z37:=Tryz.sizeOf148
 v37:=Tryz.zeroValue148
 t46:=Tryz.underlying141
 a46:=Tryz.isAgg141
 z46:=Tryz.sizeOf141
 v46:=Tryz.zeroValue141
 t51:=Tryz.underlying176
 a51:=Tryz.isAgg176
 z51:=Tryz.sizeOf176
 v51:=Tryz.zeroValue176
 t53:=Tryz.underlying178
 a53:=Tryz.isAgg178
 z53:=Tryz.sizeOf178
 v53:=Tryz.zeroValue178
 t171:=Tryz.underlying198
 a171:=Tryz.isAgg198
 z171:=Tryz.sizeOf198
 v171:=Tryz.zeroValue198
 t173:=Tryz.underlying200
 a173:=Tryz.isAgg200
 z173:=Tryz.sizeOf200
 v173:=Tryz.zeroValue200
 t212:=Tryz.underlying204
 a212:=Tryz.isAgg204
 z212:=Tryz.sizeOf204
 v212:=Tryz.zeroValue204
 t213:=Tryz.underlying205
 a213:=Tryz.isAgg205
 z213:=Tryz.sizeOf205
 t232:=Tryz.underlying206
 a232:=Tryz.isAgg206
 z232:=Tryz.sizeOf206
 v232:=Tryz.zeroValue206
 t233:=Tryz.underlying207
 a233:=Tryz.isAgg207
 z233:=Tryz.sizeOf207
 v233:=Tryz.zeroValue207
 g17:=by kernel_rfl
 g18:=by kernel_rfl
 g19:=by kernel_rfl
 i0:=by kernel_rfl
 i2:=by kernel_rfl
 i3:=by kernel_rfl
 i4:=by kernel_rfl
 i5:=by kernel_rfl
 i9:=by kernel_rfl
 i20:=by kernel_rfl
 i37:=by kernel_rfl
 i46:=by kernel_rfl
 i51:=by kernel_rfl
 i53:=by kernel_rfl
 i171:=by kernel_rfl
 i173:=by kernel_rfl
 i212:=by kernel_rfl
 i232:=by kernel_rfl
 i233:=by kernel_rfl
 m17:=by kernel_rfl
 m18:=by kernel_rfl
 m19:=by kernel_rfl }
def Tryz.zV:Go.Shelf.Ren:=⟨fun|169=>122|n=>n,fun|70=>147|9=>9|0=>0|72=>150|37=>148|127=>181|3=>3|5=>5|n=>n,fun|n=>n⟩
theorem Tryz.Vp:Go.Proofs.Lays.n169 Tryz.prog Tryz.zV:={
 mixed:=by kernel_rfl
 f169:=Tryz.func122.trans (congrArg some (by kernel_rfl))
 t0:=Tryz.underlying0
 a0:=Tryz.isAgg0
 z0:=Tryz.sizeOf0
 v0:=Tryz.zeroValue0
 t3:=Tryz.underlying3
 a3:=Tryz.isAgg3
 z3:=Tryz.sizeOf3
 v3:=Tryz.zeroValue3
 t9:=Tryz.underlying9
 a9:=Tryz.isAgg9
 z9:=Tryz.sizeOf9
 v9:=Tryz.zeroValue9
 t37:=Tryz.underlying148
 a37:=Tryz.isAgg148
 z37:=Tryz.sizeOf148
 v37:=Tryz.zeroValue148
 t70:=Tryz.underlying147
 a70:=Tryz.isAgg147
 z70:=Tryz.sizeOf147
 v70:=Tryz.zeroValue147
 t72:=Tryz.underlying150
 a72:=Tryz.isAgg150
 z72:=Tryz.sizeOf150
 v72:=Tryz.zeroValue150
 t127:=Tryz.underlying181
 a127:=Tryz.isAgg181
 z127:=Tryz.sizeOf181
 v127:=Tryz.zeroValue181 }
def Tryz.MS:Go.Shelf.Ren:=⟨fun|20=>70|n=>n,fun|22=>25|3=>3|4=>4|0=>0|n=>n,fun|n=>n⟩
theorem Tryz.Td:Go.Proofs.Lays2.n20 Tryz.prog Tryz.MS:={
 mixed:=by kernel_rfl
 f20:=Tryz.func70.trans (congrArg some (by kernel_rfl))
 t0:=Tryz.underlying0
 a0:=Tryz.isAgg0
 z0:=Tryz.sizeOf0
 v0:=Tryz.zeroValue0
 t3:=Tryz.underlying3
 a3:=Tryz.isAgg3
 z3:=Tryz.sizeOf3
 v3:=Tryz.zeroValue3
 t4:=Tryz.underlying4
 a4:=Tryz.isAgg4
 z4:=Tryz.sizeOf4
 v4:=Tryz.zeroValue4
 t22:=Tryz.underlying25
 a22:=Tryz.isAgg25
 z22:=Tryz.sizeOf25
 v22:=Tryz.zeroValue25
 i3:=by kernel_rfl }
def Tryz.MT:Go.Shelf.Ren:=⟨fun|21=>85|27=>117|28=>118|35=>157|39=>177|n=>n,fun|22=>25|3=>3|4=>4|0=>0|n=>n,fun|n=>n⟩
theorem Tryz.Xa:Go.Proofs.Lays2.n21 Tryz.prog Tryz.MT:={
 mixed:=by kernel_rfl
 f21:=Tryz.func85.trans (congrArg some (by kernel_rfl))
 f27:=Tryz.func117.trans (congrArg some (by kernel_rfl))
 f28:=Tryz.func118.trans (congrArg some (by kernel_rfl))
 f35:=Tryz.func157.trans (congrArg some (by kernel_rfl))
 f39:=Tryz.func177.trans (congrArg some (by kernel_rfl))
 t0:=Tryz.underlying0
 a0:=Tryz.isAgg0
 z0:=Tryz.sizeOf0
 v0:=Tryz.zeroValue0
 t3:=Tryz.underlying3
 a3:=Tryz.isAgg3
 z3:=Tryz.sizeOf3
 v3:=Tryz.zeroValue3
 t4:=Tryz.underlying4
 a4:=Tryz.isAgg4
 z4:=Tryz.sizeOf4
 v4:=Tryz.zeroValue4
 t22:=Tryz.underlying25
 a22:=Tryz.isAgg25
 z22:=Tryz.sizeOf25
 v22:=Tryz.zeroValue25
 i3:=by kernel_rfl }
theorem Tryz.SO:Builder.Extra Tryz.prog Tryz.zV:={
 sizeBuilder:=by kernel_rfl
 liesBuilder:=by kernel_rfl
 t5:=Tryz.underlying5
 a5:=Tryz.isAgg5
 z5:=Tryz.sizeOf5
 v5:=Tryz.zeroValue5
 infoByte:=by kernel_rfl
 cellsByte:=by kernel_rfl
 sizeByte:=by kernel_rfl
 neB5:=by decide }
end Go.Proofs
namespace Go.Proofs.YtpkahnkoecbndaaGreatDoor.Am
open Go.RowKit Go.Proofs.YtpkahnkoecbndaaGreatDoor.P
set_option linter.unusedSimpArgs false
set_option linter.unusedVariables false
theorem Vn {α:Type} (E:jX α) {B:Nat} {l n:List α} {i:Int} {x:α} (h:W6 B l i [x]=some n):0≤i∧i≤(l.length:Int)∧l.length+1=n.length∧n.length*B≤140737488355328 ∧
  (ab E l).take (i.toNat*E.size)++(E.cells x++(ab E l).drop (i.toNat*E.size))=ab E n:=by
 unfold W6 at h
 split at h
 ·rename_i hc
  cases h
  obtain⟨h1,h2,-,h4⟩:=hc
  have hl:l.length+1=(l.take i.toNat++([x]++l.drop i.toNat)).length:=by simp;omega
  refine⟨h1,h2,hl,by rw[← hl];exact h4,?_⟩
  rw[gq,gq,fN,uI]
  simp[ab]
 ·cases h
theorem RO {w:World} {M:Nat→Prop} {k:IntKind} {n:Int} {u:Value} (h:RP w M (.int k n) u):u=.int k n:=by cases h;rfl
theorem GX {w:World} {M:Nat→Prop} {k:IntKind} {l:List Int} {u:Value} (h:RP w M (.sl false false l.length (ab (eI k) l)) u) :
  ∃A c,u=.slice A l.length c∧l.length≤c∧c≤maxLen∧(A=none→l.length=0∧c=0)∧(l≠[]→∃b o,A=some ⟨b,o,none⟩∧b<w.heap.size∧¬M b∧∀j,j<l.length→w.cell? ⟨b,o+j,none⟩=some (.int k (l.getD j 0))):=by
 cases h with
 | sl A c nl tight n xs us h1 h2 h3 h4 h5 h6 h7 h8 =>
  refine⟨A,c,rfl,h1,h2,h4,fun hl =>?_⟩
  have hne:ab (eI k) l≠[]:=by
   intro he
   have:=congrArg List.length he
   rw[cl]at this
   exact hl (List.eq_nil_of_length_eq_zero this)
  obtain⟨b,o,rfl,hb,hM,hc⟩:=h6 hne
  refine⟨b,o,rfl,hb,hM,fun j hj =>?_⟩
  rw[hc j (by rw[cl];exact hj)]
  have hg:(ab (eI k) l)[j]? = some (.int k (l.getD j 0)):=by rw[ji];simp[List.getD,hj]
  rw[RO (h7 j _ hg)]
theorem N1 {vs:Array Value} (h:vs.size=1):vs = #[vs.getD 0 undef]:=by
 apply Array.ext
 ·simp[h]
 ·intro i h1 h2
  have:i=0:=by omega
  subst this
  simp[Array.getElem?_eq_getElem h1]
theorem VM {P:Program} {f:FuncId} {fn:Func} {α:Type} {A:Arg α} {F:α→Option ByteArray} (hf:P.funcs[f]? = some fn) (hc:(fn.name == "runtime.NumGoroutine")=false∧fn.body.isNone=false)
  (hC:∀x r,F x=some r→∀(w:World) (M:Nat→Prop) (u:Value),RP w M (A.d x) u→GY w M→Calls P f #[u] w fun e w'=>e=.returned (.string r)∧Below w.heap.size w w'):bH P f (eL (dJ A) F (fun r =>.clean (.str r))) where
 callable:=⟨fn,hf,hc⟩
 calls lent ds rk out hg:=by
  obtain⟨rfl,rfl,a,r,rfl,hr,rfl⟩:=qp hg
  intro w M vs hM hargs
  have hsz:vs.size=1:=hargs.size
  rw[N1 hsz]
  refine (hC a r hr w M _ (hargs.at_ 0 _ rfl) hargs.tab).mono fun e w' ⟨he,hb⟩=>⟨_,he,hb,?_⟩
  exact RP.str r
def XN (P:Program) (f:FuncId):Prop:=∀(n:Int) (w:World),-9223372036854775808≤n→n≤9223372036854775807→(∀b,se=some b→∃ty fr,w.heap[b]? = some (.cells mZ ty fr))→Calls P f #[.int .i64 n] w fun e w'=>e=.returned (.string (CG n))∧Below w.heap.size w w'
def RA (P:Program) (f:FuncId):Prop:=(∀(blk off cap:Nat) (zs:List Int) (w:World),Go.Sort.Holds (Value.int .i64) w blk off zs.toArray→zs.length≤9223372036854775807→zs.length≤cap →
 Calls P f #[.slice (some ⟨blk,off,none⟩) zs.length cap] w fun e w'=>e=.returned (.slice (some ⟨blk,off,none⟩) (Lib.compact zs).length cap)∧∃q,w'=Go.Sort.putRow (Value.int .i64) (Go.Sort.ahead w q) blk off (Lib.compact zs++List.replicate (zs.length-(Lib.compact zs).length) 0).toArray) ∧
 ∀(a:Option Addr) (cap:Nat) (w:World),Calls P f #[.slice a 0 cap] w fun e w'=>e=.returned (.slice a 0 cap)∧w'=w
theorem Fe (d:Array Int):∀m:Nat,(Lib.compactUpTo d m).length≤m
 | 0=>by simp[Lib.compactUpTo]
 | m+1=>by
  rw[Lib.compactUpTo_succ,List.length_append]
  have:=Fe d m
  split<;>simp<;>omega
theorem BQ (l:List Int):(Lib.compact l).length≤l.length:=Fe _ _
theorem Mm {P:Program} {f:FuncId} {fn:Func} {ty:Nat} (hf:P.funcs[f]? = some fn) (hc:(fn.name == "runtime.NumGoroutine")=false∧fn.body.isNone=false) (hC:RA P f) :
  bH P f (Ws ty (eI .i64) UR (fun l (_:Unit)=>OO l)) where
 callable:=⟨fn,hf,hc⟩
 calls lent ds rk out hg:=by
  obtain⟨pre,l,post,a,r,rfl,rfl,hr,rfl,rfl⟩:=KT hg
  unfold OO at hr
  split at hr
  rotate_left
  ·cases hr
  rename_i hlen
  cases hr
  intro w M go u0 vs hM hgoM hz hmp hrow hlv hargs
  have hvs:vs = #[]:=by
   have:=hargs.1
   simpa [UR] using this
  subst hvs
  have hle:=BQ l
  have hnil:Lib.compact ([]:List Int)=[]:=by
   have:=BQ ([]:List Int)
   exact List.eq_nil_of_length_eq_zero (Nat.le_zero.1 this)
  rcases hlv.2 ⟨0,0,[],false,false,false⟩ rfl rfl with⟨g,o',c,N,t,k0,k1,k2,k3,k4,k5⟩|⟨k0,hn0,A,k1⟩
  ·cases k0
   subst k1
   obtain⟨cs,h1,h2,h3⟩:=hrow
   simp only[List.length_append,cl]at h2
   have hN:N=cs.size:=by
    simp only[World.shape?,h1,Option.some.injEq,Prod.mk.injEq]at k5
    exact k5.2.symm
   have hone:(eI IntKind.i64).size=1:=rfl
   by_cases hl:l=[]
   ·subst hl
    refine (hC.2 _ c w).mono fun e w' ⟨he,hw⟩ =>?_
    subst hw
    rw[hnil]
    refine⟨_,he,⟨rfl,rfl,rfl,Nat.le_refl _,fun k _ _=>rfl⟩,trivial,?_⟩
    by_cases hcc:0<c∨pre.length=0
    ·obtain⟨k6,k7⟩:=k2 hcc
     exact .inl ⟨(g.1,o'),c,cs,rfl,.inr ⟨g,rfl,rfl⟩,h1,Nat.zero_le _,k4,by rw[hone]at *;omega,by rw[hone]at *;simp[ab];omega,fun j d hj=>by simp[ab]at hj⟩
    ·have:c=0:=by omega
     subst this
     exact .inr ⟨rfl,rfl,_,rfl⟩
   ·have hpos:0<l.length:=List.length_pos_iff.2 hl
    obtain⟨k6,k7⟩:=k2 (.inl (by omega))
    subst k6
    have hcell:∀j,j<l.length→cs.getD (g.2+(pre.length+j)) undef=.int .i64 (l.getD j 0):=by
     intro j hj
     have hd:(pre++(ab (eI .i64) l++post))[pre.length+j]? = some (.int .i64 (l.getD j 0)):=by
      rw[List.getElem?_append_right (by omega),Nat.add_sub_cancel_left,List.getElem?_append_left (by rw[cl];exact hj),ji]
      simp[List.getD,hj]
     obtain⟨_,hp⟩:=h3 _ _ hd
     exact RO hp
    have hH:Go.Sort.Holds (Value.int .i64) w g.1 (g.2+pre.length) l.toArray:=by
     intro j hj
     simp only[List.size_toArray]at hj
     refine⟨?_,by simp[World.frozen?,h1]⟩
     have:=bz h1 (j:=g.2+pre.length+j) (by omega)
     rw[this,Nat.add_assoc,hcell j hj]
     simp[List.getD,hj]
    refine (hC.1 g.1 (g.2+pre.length) c l w hH hlen k3).mono fun e w' ⟨he,q,hw⟩ =>?_
    subst hw
    have hdl:(Lib.compact l++List.replicate (l.length-(Lib.compact l).length) 0).length=l.length:=by simp;omega
    have hnew:(Go.Sort.putRow (Value.int .i64) (Go.Sort.ahead w q) g.1 (g.2+pre.length) (Lib.compact l++List.replicate (l.length-(Lib.compact l).length) 0).toArray).heap[g.1]? = some (.cells (Go.Sort.putCells (Value.int .i64) (g.2+pre.length) (Lib.compact l++List.replicate (l.length-(Lib.compact l).length) 0).toArray cs) ty (0,0)):=uf h1
    have hsz:(Go.Sort.putCells (Value.int .i64) (g.2+pre.length) (Lib.compact l++List.replicate (l.length-(Lib.compact l).length) 0).toArray cs).size=cs.size:=by simp[Go.Sort.putCells]
    refine⟨_,he,⟨rfl,rfl,rfl,by simp[Go.Sort.ahead],fun k hk hn =>?_⟩,trivial,.inl ⟨(g.1,g.2+pre.length),c,_,rfl,.inr ⟨g,rfl,rfl⟩,hnew,by omega,k4,?_,?_,fun j d hj =>?_⟩⟩
    ·exact k9 fun e=>hn ⟨g,rfl,e⟩
    ·rw[hsz,hone];rw[hone]at k7;omega
    ·rw[hsz,cl];simp only;omega
    ·have hjl:=(List.getElem?_eq_some_iff.1 hj).1
     rw[cl]at hjl
     rw[ji,Option.map_eq_some_iff]at hj
     obtain⟨z,hz,rfl⟩:=hj
     simp only
     rw[rO (by omega),hdl,if_pos (by omega)]
     have e1:g.2+pre.length+j-(g.2+pre.length)=j:=by omega
     have e2:(Lib.compact l++List.replicate (l.length-(Lib.compact l).length) 0).getD j 0=z:=by rw[List.getD_eq_getElem?_getD,List.getElem?_append_left hjl,hz];rfl
     rw[e1,e2]
     exact⟨rfl,.int _ _⟩
  ·subst k1
   have hl:l=[]:=List.eq_nil_of_length_eq_zero hn0
   subst hl
   refine (hC.2 _ 0 w).mono fun e w' ⟨he,hw⟩ =>?_
   subst hw
   rw[hnil]
   exact⟨_,he,⟨rfl,rfl,rfl,Nat.le_refl _,fun k _ _=>rfl⟩,trivial,.inr ⟨rfl,rfl,_,rfl⟩⟩
theorem iR (b:Nat) {ty:Nat} {fr:Nat×Nat} : ∀(vs:List Value) (o:Nat) (w:World) (arr:Array Value),w.heap[b]? = some (.cells arr ty fr)→o+vs.length≤arr.size →
  (w.setCells b o vs).os=w.os∧(w.setCells b o vs).tape=w.tape∧(w.setCells b o vs).output=w.output∧(w.setCells b o vs).heap.size=w.heap.size∧(∀k,k≠b→(w.setCells b o vs).heap[k]? = w.heap[k]?) ∧
  ∃arr',(w.setCells b o vs).heap[b]? = some (.cells arr' ty fr)∧arr'.size=arr.size∧∀j,arr'[j]? = if o≤j∧j<o+vs.length then vs[j-o]? else arr[j]?
 | [],o,w,arr,h,_=>⟨rfl,rfl,rfl,rfl,fun k _=>rfl,arr,h,rfl,fun j=>by rw[if_neg (by simp)]⟩
 | v::r,o,w,arr,h,hl=>by
  simp only[List.length_cons]at hl
  have h1:(w.setCell ⟨b,o,none⟩ v).heap[b]? = some (.cells (arr.setIfInBounds o v) ty fr):=by
   simp[World.setCell,Array.getElem?_modify,h]
  obtain⟨e1,e2,e3,e4,e5,arr',e6,e7,e8⟩:=iR b r (o+1) (w.setCell ⟨b,o,none⟩ v) _ h1 (by simp;omega)
  refine⟨e1,e2,e3,e4.trans (by simp[World.setCell]),fun k hk=>(e5 k hk).trans (by simp[World.setCell,Array.getElem?_modify,Ne.symm hk]),arr',e6,by simpa using e7,fun j =>?_⟩
  rw[e8 j,Array.getElem?_setIfInBounds]
  simp only[List.length_cons]
  by_cases h1:o+1≤j∧j<o+1+r.length
  ·rw[if_pos h1,if_pos (by omega)]
   have:j-o=(j-(o+1))+1:=by omega
   rw[this,List.getElem?_cons_succ]
  ·rw[if_neg h1]
   by_cases h2:o=j
   ·subst h2
    rw[if_pos rfl,if_pos (by omega),if_pos (by omega),Nat.sub_self]
    rfl
   ·rw[if_neg h2,if_neg (by omega)]
open Go.Shelf in
theorem QA {P:Program} {ρ:Ren} (L:Lays2.n21 P ρ) {fn:Func} (hf:P.funcs[ρ.f 21]? = some fn) (hc:(fn.name == "runtime.NumGoroutine")=false∧fn.body.isNone=false):RF P (ρ.f 21) (ρ.t 3,1,8) where
 callable:=⟨fn,hf,hc⟩
 pos:=Nat.one_pos
 calls w go go' u u' i n m cs cs' h1 h2 hne hl hl' ho ho' hi hm hmax:=by
  simp only[Nat.mul_one]at *
  obtain⟨g',c',arr',rfl,rfl,b1,b2,b3,b4,b5⟩:∃g c arr,go'=some g∧u'=.slice (some ⟨g.1,g.2,none⟩) m c∧w.heap[g.1]? = some (.cells arr (ρ.t 3) (0,0))∧c*1+g.2=arr.size∧m≤c∧c≤maxLen∧∀(j:Nat) x,cs'[j]? = some x→arr[g.2+j]? = some x:=by
   rcases h2 with⟨g,c,arr,k⟩|⟨_,rfl,_⟩
   ·exact⟨g,c,arr,by simpa using k⟩
   ·omega
  have hvs:∀(j:Nat) v,cs'[j]? = some v→w.cell? ⟨g'.1,g'.2+j,none⟩=some v:=fun j v hj=>by simp[World.cell?,b1,b5 j v hj]
  rcases h1 with⟨g,c,arr,rfl,rfl,a1,a2,a3,a4,a5⟩|⟨rfl,rfl,rfl,A,rfl⟩
  ·have hcs:∀(j:Nat) v,cs[j]? = some v→w.cell? ⟨g.1,g.2+j,none⟩=some v:=fun j v hj=>by simp[World.cell?,a1,a5 j v hj]
   have hfz:∀j,w.frozen? ⟨g.1,j,none⟩=false:=fun j=>by simp[World.frozen?,a1]
   have hbb:g.1≠g'.1:=hne g g' rfl rfl
   have hlt:g.1<w.heap.size:=(Array.getElem?_eq_some_iff.1 a1).1
   have hsp:∀j,j<n+m→n+m≤c→(w.cell? ⟨g.1,g.2+j,none⟩).isSome=true:=fun j hj hr=>by
    simp only[World.cell?,a1]
    rw[Array.getElem?_eq_getElem (by omega)]
    rfl
   by_cases hin:i=n
   ·subst hin
    have ht:cs.take i=cs:=List.take_of_length_le (by omega)
    have hd:cs.drop i=[]:=List.drop_eq_nil_of_le (by omega)
    rw[ht,hd,List.append_nil]
    by_cases hroom:i+m≤c
    ·refine (Any2.slices_Insert_int_end_room L g.1 g.2 i c g'.1 g'.2 m c' cs' w hm hroom (by unfold maxLen at a4;omega) hl' (fun j hj=>by have:=hsp (i+j) (by omega) hroom;rwa [← Nat.add_assoc]at this) (fun j _=>hfz _) hvs ho').mono fun e w' ⟨he,hw⟩ =>?_
     subst hw
     obtain⟨e1,e2,e3,e4,e5,arr2,e6,e7,e8⟩:=iR g.1 cs' (g.2+i) w arr a1 (by omega)
     refine⟨_,he,⟨e1,e2,e3,by omega,fun k hk hn=>e5 k (fun h=>hn ⟨g,rfl,h⟩)⟩,g,c,arr2,rfl,.inr ⟨g,rfl,rfl⟩,e6,hroom,a4,by omega,fun j x hj =>?_⟩
     rw[e8]
     by_cases hj2:j<i
     ·rw[if_neg (by omega)]
      rw[List.getElem?_append_left (by omega)]at hj
      exact a5 j x hj
     ·have hjl:=(List.getElem?_eq_some_iff.1 hj).1
      rw[List.length_append]at hjl
      rw[List.getElem?_append_right (by omega)]at hj
      rw[if_pos (by omega)]
      rw[← hj];congr 1;omega
    ·refine (Any2.slices_Insert_int_end_grow L (some ⟨g.1,g.2,none⟩) i c g'.1 g'.2 m c' cs cs' w hm a3 (by omega) hmax hl hl' (fun h=>by cases h) (fun a ha j v hj=>by cases ha;rw[Addr.add_lit];exact hcs j v hj) hvs ho').mono fun e w' ⟨he,hw⟩ =>?_
     subst hw
     have hge:=grownCap_ge w (i+m) c (ρ.t 3)
     refine⟨_,he,cu.qu ((Below.refl _ w).drew.alloc (by simp) _),(w.heap.size,0),_,_,rfl,.inl (Nat.le_refl _),heap_alloc_new w.drew _,hge,grownCap_le_maxLen _ _ _ _ (by unfold maxLen;omega),?_,fun j x hj =>?_⟩
     ·simp[Builtin.zeroCells,Value.cells];omega
     ·have hjl:=(List.getElem?_eq_some_iff.1 hj).1
      rw[Nat.zero_add,Array.getElem?_append_left (by simpa using hjl)]
      simpa using hj
   ·have hin':i<n:=by omega
    by_cases hroom:n+m≤c
    ·refine (Any2.slices_Insert_int_shift L g.1 g.2 n c i g'.1 g'.2 m c' cs cs' w hin' hm hroom (by unfold maxLen at a4;omega) (Ne.symm hbb) hl hl' hcs (fun j hj=>hsp j hj hroom) (fun j _=>hfz _) hvs ho ho' (ρ.t 3) (ρ.t 3) arr'.size arr.size (by simp[World.shape?,b1]) (by simp[World.shape?,a1]) (by omega) (by simp[World.frozen?,b1]) (by simp[World.frozen?,b1])).mono fun e w' ⟨he,hw⟩ =>?_
     subst hw
     obtain⟨e1,e2,e3,e4,e5,arr2,e6,e7,e8⟩:=iR g.1 (cs.drop i) (g.2+(i+m)) w.drew arr a1 (by simp;omega)
     obtain⟨f1,f2,f3,f4,f5,arr3,f6,f7,f8⟩:=iR g.1 cs' (g.2+i) _ arr2 e6 (by omega)
     refine⟨_,he,⟨f1.trans e1,f2.trans e2,f3.trans e3,by rw[f4,e4];exact Nat.le_refl _,fun k hk hn=>(f5 k (fun h=>hn ⟨g,rfl,h⟩)).trans (e5 k (fun h=>hn ⟨g,rfl,h⟩))⟩,g,c,arr3,rfl,.inr ⟨g,rfl,rfl⟩,f6,hroom,a4,by omega,fun j x hj =>?_⟩
     have hjl:=(List.getElem?_eq_some_iff.1 hj).1
     simp only[List.length_append,List.length_take,List.length_drop]at hjl
     rw[f8,e8]
     by_cases hj1:j<i
     ·rw[List.getElem?_append_left (by rw[List.length_take];omega),List.getElem?_take,if_pos hj1]at hj
      rw[if_neg (by omega),if_neg (by simp;omega)]
      exact a5 j x hj
     ·rw[List.getElem?_append_right (by rw[List.length_take];omega),List.length_take,Nat.min_eq_left (by omega)]at hj
      by_cases hj2:j<i+m
      ·rw[List.getElem?_append_left (by omega)]at hj
       rw[if_pos (by omega),← hj];congr 1;omega
      ·rw[List.getElem?_append_right (by omega)]at hj
       rw[if_neg (by omega),if_pos (by simp;omega),← hj];congr 1;omega
    ·refine (Any2.slices_Insert_int_grow L g.1 g.2 n c i g'.1 g'.2 m c' cs cs' w hin' hm a3 (by omega) hmax hl hl' hcs hvs ho ho').mono fun e w' ⟨he,hw⟩ =>?_
     subst hw
     have hge:=grownCap_ge w (n+m) c (ρ.t 3)
     generalize hG:grownCap w (n+m) c (ρ.t 3)=G at *
     generalize hR:((cs.take i).toArray++Builtin.zeroCells (Value.int .i64 0).cells (n+m-i)++Builtin.zeroCells (Value.int .i64 0).cells (G-(n+m)))=R
     have hRs:R.size=G:=by subst hR;simp[Builtin.zeroCells,Value.cells];omega
     have hR0:∀j,j<i→R[j]? = cs[j]?:=fun j hj=>by
      subst hR
      rw[Array.append_assoc,Array.getElem?_append_left (by simp;omega)]
      simp[List.getElem?_take,hj]
     have hw0:(w.alloc (.cells R (ρ.t 3))).drew.heap[w.heap.size]? = some (.cells R (ρ.t 3) (0,0)):=heap_alloc_new w _
     obtain⟨e1,e2,e3,e4,e5,arr2,e6,e7,e8⟩:=iR w.heap.size cs' i _ R hw0 (by omega)
     obtain⟨f1,f2,f3,f4,f5,arr3,f6,f7,f8⟩:=iR w.heap.size (cs.drop i) (i+m) (((w.alloc (.cells R (ρ.t 3))).drew.setCells w.heap.size i cs').drew) arr2 e6 (by simp;omega)
     refine⟨_,he,⟨f1.trans e1,f2.trans e2,f3.trans e3,?_,fun k hk hn =>?_⟩,(w.heap.size,0),G,arr3,rfl,.inl (Nat.le_refl _),f6,hge,hG ▸ grownCap_le_maxLen _ _ _ _ (by unfold maxLen;omega),by simp only;omega,fun j x hj =>?_⟩
     ·rw[f4]
      show _≤((w.alloc (.cells R (ρ.t 3))).drew.setCells w.heap.size i cs').heap.size
      rw[e4]
      show _≤(w.alloc (.cells R (ρ.t 3))).heap.size
      simp
     ·rw[f5 k (by omega)]
      show ((w.alloc (.cells R (ρ.t 3))).drew.setCells w.heap.size i cs').heap[k]? = _
      rw[e5 k (by omega)]
      exact Below.heap_alloc w _ k hk
     ·have hjl:=(List.getElem?_eq_some_iff.1 hj).1
      simp only[List.length_append,List.length_take,List.length_drop]at hjl
      rw[Nat.zero_add,f8,e8]
      by_cases hj1:j<i
      ·rw[List.getElem?_append_left (by rw[List.length_take];omega),List.getElem?_take,if_pos hj1]at hj
       rw[if_neg (by omega),if_neg (by omega),hR0 j hj1,hj]
      ·rw[List.getElem?_append_right (by rw[List.length_take];omega),List.length_take,Nat.min_eq_left (by omega)]at hj
       by_cases hj2:j<i+m
       ·rw[List.getElem?_append_left (by omega)]at hj
        rw[if_neg (by omega),if_pos (by omega),← hj]
       ·rw[List.getElem?_append_right (by omega)]at hj
        rw[if_pos (by simp;omega),← hj];congr 1;omega
  ·have hi0:i=0:=by omega
   subst hi0
   refine (Any2.slices_Insert_int_end_grow L A 0 0 g'.1 g'.2 m c' [] cs' w hm (Nat.le_refl _) (by omega) (by omega) rfl hl' (fun _=>rfl) (fun a ha j v hj=>by simp at hj) hvs ho').mono fun e w' ⟨he,hw⟩ =>?_
   subst hw
   have hge:=grownCap_ge w (0+m) 0 (ρ.t 3)
   refine⟨_,he,cu.qu ((Below.refl _ w).drew.alloc (by simp) _),(w.heap.size,0),_,_,rfl,.inl (Nat.le_refl _),heap_alloc_new w.drew _,hge,grownCap_le_maxLen _ _ _ _ (by unfold maxLen;omega),?_,fun j x hj =>?_⟩
   ·have hge':=hge
    simp only[Nat.zero_add]at hge'
    simp[Builtin.zeroCells,Value.cells];omega
   ·simp only[List.take_nil,List.drop_nil,List.nil_append,List.append_nil]at hj
    have hjl:=(List.getElem?_eq_some_iff.1 hj).1
    rw[Nat.zero_add,Array.getElem?_append_left (by simpa using hjl)]
    simpa using hj
end Go.Proofs.YtpkahnkoecbndaaGreatDoor.Am
namespace Go.Proofs.YtpkahnkoecbndaaGreatDoor.Am
open Go.RowKit Go.Shelf Go.Proofs.YtpkahnkoecbndaaGreatDoor.P
set_option linter.unusedSimpArgs false
set_option linter.unusedVariables false
attribute [local go_sem] Oper.semAt_some
def upto (f:Nat→Int) (k:Nat):List Int:=(List.range k).map f
theorem GU (f:Nat→Int) (k:Nat):upto f (k+1)=upto f k++[f k]:=by simp[upto,List.range_succ]
theorem L0 (f:Nat→Int) (k:Nat):(upto f k).length=k:=by simp[upto]
theorem UE (zs:List Int):upto (fun j=>zs[j]?.getD 0) zs.length=zs:=by
 apply List.ext_getElem
 ·simp[upto]
 ·intro i h1 h2
  simp[upto,h2]
theorem Rp (zs:List Int) {k:Nat} (hk:k≤zs.length):upto (fun j=>zs[j]?.getD 0) k=zs.take k:=by
 apply List.ext_getElem
 ·simp[upto,hk]
 ·intro i h1 h2
  have:i<zs.length:=by simp[upto]at h1;omega
  simp[upto,this]
set_option maxRecDepth 100000 in
set_option maxHeartbeats 2000000 in
theorem NZ (F:Fence) (n:Nat) (h7:F.fn 156) (hro:F.round=none) (hn:1≤n) (l Bs Bo n₀ b off len cap:Nat) (zs:List Int) (hreach:len*8≤140737488351232) (hb:b<n₀) (J Jx:List Int→World→Prop)
  (hY:∀pre x W,J pre W→pre.length<len→YieldAt F (n-1) Tryz.prog l #[.int .i64 x] W fun e W' =>
   (e=.returned (.bool true)∧J (pre++[x]) W'∧Below n₀ W W')∨(e=.returned (.bool false)∧Jx (pre++[x]) W'))
  (W:World) (hBs:W.cell? ⟨Bs,Bo,none⟩=some (.slice (some ⟨b,off,none⟩) len cap)) (hc:∀j,j<len→W.cell? ⟨b,off+j,none⟩=some (.int .i64 (zs[j]?.getD 0))) (h0:J [] W) :
  CallsIn F n Tryz.prog 156 #[.func (.yield l) #[] #[],.pointer (some ⟨Bs,Bo,none⟩)] W fun e W'=>(∃v,e=.returned v) ∧
   ((∃ys,ys=upto (fun j=>zs[j]?.getD 0) len∧J ys W')∨(∃pre,(∃k,k≤len∧pre=upto (fun j=>zs[j]?.getD 0) k)∧Jx pre W')):=by
 refine callsIn_of_wp Tryz.func156 rfl h7 ?_ hro
 simp only[Tryz.ntmps156,List.size_toArray,List.length_cons,List.length_nil,Nat.reduceAdd,Nat.reduceSub,Array.replicate_succ,Array.replicate_zero,List.push_toArray,List.append_toArray,List.nil_append,List.cons_append]
 gi_wp2
 gi_loopw [7] (fun i wr=>∃k:Nat,k≤len∧i=.int .i64 k∧J (upto (fun j=>zs[j]?.getD 0) k) wr∧Below n₀ W wr)
  (fun i _=>len-(intOf i).toNat)
 case atStart=>exact⟨0,Nat.zero_le _,rfl,h0,Below.refl _ _⟩
 case round =>
  obtain⟨k,hk,rfl,hJs,hnx⟩:=hrel
  have hcx:k<len→wr.cell? ⟨b,off+k,none⟩=some (.int .i64 (zs[k]?.getD 0)):=fun h=>(hnx.cell (p:=⟨b,off+k,none⟩) hb).trans (hc k h)
  by_cases hlt:k<len
  ·obtain⟨fn,tmps,assign,body,hy,hR⟩:=hY _ (zs[k]?.getD 0) wr hJs (by rw[L0];exact hlt)
   have hcx':=hcx hlt
   gi_wp2
   refine hR.mono ?_
   rintro e W3 (⟨rfl,hJ3,hk3⟩|⟨rfl,hJx3⟩)
   ·gi_wp2
    go_roundw
    case rel=>exact⟨k+1,by omega,by simp,by rw[GU];exact hJ3,hnx.trans hk3⟩
    case measure=>simp[intOf];omega
   ·gi_wp2
    refine bodyPost_ret (results_none rfl _ _ _) rfl ?_
    exact⟨⟨_,rfl⟩,.inr ⟨_,⟨k+1,by omega,(GU _ _).symm⟩,hJx3⟩⟩
  ·obtain rfl:k=len:=by omega
   gi_wp2
   go_end0
   exact⟨⟨_,rfl⟩,.inl ⟨_,rfl,hJs⟩⟩
set_option maxRecDepth 100000 in
set_option maxHeartbeats 1000000 in
theorem DP (F:Fence) (n:Nat) (h7:F.fn 156) (hro:F.round=none) (l Bs Bo cap:Nat) (A:Option Addr) (J:List Int→World→Prop) (W:World) (hBs:W.cell? ⟨Bs,Bo,none⟩=some (.slice A 0 cap)) (h0:J [] W) :
  CallsIn F n Tryz.prog 156 #[.func (.yield l) #[] #[],.pointer (some ⟨Bs,Bo,none⟩)] W fun e W'=>(∃v,e=.returned v)∧J [] W':=by
 refine callsIn_of_wp Tryz.func156 rfl h7 ?_ hro
 simp only[Tryz.ntmps156,List.size_toArray,List.length_cons,List.length_nil,Nat.reduceAdd,Nat.reduceSub,Array.replicate_succ,Array.replicate_zero,List.push_toArray,List.append_toArray,List.nil_append,List.cons_append]
 gi_wp2
 gi_loopw [7] (fun i wr=>i=.int .i64 0∧J [] wr) (fun _ _=>0)
 case atStart=>exact⟨rfl,h0⟩
 case round =>
  obtain⟨rfl,hJs⟩:=hrel
  gi_wp2
  go_end0
  exact⟨⟨_,rfl⟩,hJs⟩
def Ints (n₀:Nat) (W:World) (sv:Value) (zs:List Int):Prop :=
 (∃A c,sv=.slice A 0 c∧zs=[])∨∃b off cap,sv=.slice (some ⟨b,off,none⟩) zs.length cap∧b<n₀∧∀j,j<zs.length→W.cell? ⟨b,off+j,none⟩=some (.int .i64 (zs[j]?.getD 0))
theorem Ints.below {n₀:Nat} {A B:World} (h:Below n₀ A B) {sv:Value} {zs:List Int} : Ints n₀ A sv zs→Ints n₀ B sv zs
 | .inl e =>.inl e
 | .inr ⟨b,off,cap,e,hb,hc⟩ =>.inr ⟨b,off,cap,e,hb,fun j hj=>(h.cell (p:=⟨b,off+j,none⟩) hb).trans (hc j hj)⟩
theorem Io (F:Fence) (n:Nat) (h7:F.fn 156) (hro:F.round=none) (hn:1≤n) (Bs Bo n₀:Nat) (sv:Value) (zs:List Int) (hreach:zs.length*8≤140737488351232) (w:World) (hBs:Bs<w.heap.size) (hn₀:n₀≤w.heap.size)
  (hc:w.cell? ⟨Bs,Bo,none⟩=some sv) (hI:Ints n₀ w sv zs) :
  SeqStopsK F n Tryz.prog 156 #[.pointer (some ⟨Bs,Bo,none⟩)] (fun x:Int=>#[Value.int .i64 x]) (Below n₀) (fun ys=>ys=zs) (fun pre=>pre <+: zs) zs.length w:=fun l J Jx W hW _ _ hY h0=>by
 have hc':=(hW.cell (p:=⟨Bs,Bo,none⟩) hBs).trans hc
 rcases hI.below (hW.mono hn₀) with⟨A,c,rfl,rfl⟩|⟨b,off,cap,rfl,hb,hcs⟩
 ·exact (DP F n h7 hro l Bs Bo _ _ J W hc' h0).mono fun e W' ⟨he,hj⟩=>⟨he,.inl ⟨_,rfl,hj⟩⟩
 ·refine (NZ F n h7 hro hn l Bs Bo n₀ b off zs.length cap zs hreach hb J Jx hY W hc' hcs h0).mono ?_
  rintro e W' ⟨he,⟨ys,rfl,hj⟩|⟨pre,⟨k,hk,rfl⟩,hj⟩⟩
  ·exact⟨he,.inl ⟨_,UE zs,hj⟩⟩
  ·exact⟨he,.inr ⟨_,by rw[Rp zs hk];exact List.take_prefix _ _,hj⟩⟩
theorem X6:(Tryz.prog.info? 3).map (fun i=>(i.zero,i.size,i.bytes))=some (some (.int .i64 0),1,8):=by kernel_rfl
set_option maxRecDepth 100000 in
set_option maxHeartbeats 2000000 in
theorem appendSeq_in (F:Fence) (n:Nat) (h3:F.fn 176) (h7:F.fn 156) (hro:F.round=none) (hn:3≤n) (Bs Bo:Nat) (sv:Value) (zs:List Int) (hreach:zs.length*8≤140737488351232) (w:World)
  (hBs:Bs<w.heap.size) (hc:w.cell? ⟨Bs,Bo,none⟩=some sv) (hI:Ints w.heap.size w sv zs) :
  CallsIn F n Tryz.prog 176 #[.slice none 0 0,.func (.func 156) #[] #[.pointer (some ⟨Bs,Bo,none⟩)]] w fun e W'=>∃v,e=.returned v∧W'.ownsRow w.heap.size 3 1 v zs.length (zs.map (Value.int .i64))∧(v=.slice none 0 0↔zs=[])∧Below w.heap.size w W':=by
 have h1:1≤n:=by omega
 obtain⟨i0,hi,hz0,hz1,hz2⟩:=info_parts X6
 refine callsIn_of_wp_marks Tryz.func176 rfl h3 ?_ hro
 simp only[Tryz.ntmps176,List.size_toArray,List.length_cons,List.length_nil,Nat.reduceAdd,Nat.reduceSub,Array.replicate_succ,Array.replicate_zero,List.push_toArray,List.append_toArray,List.nil_append,List.cons_append]
 gi_wp2
 have bO:=Boxed.new w 25 (.slice none 0 0)
 have hB0:Below w.heap.size w (w.alloc (.cells #[.slice none 0 0] 25)):=(Below.refl _ w).alloc (Nat.le_refl _) _
 refine wpIn_rangeFunc_ownG hro h1 (gf:=156) (lb:=#[.pointer (some ⟨Bs,Bo,none⟩)]) rfl h7 (enters_of Tryz.func156 (by kernel_rfl) rfl)
  (Io F (n-1) h7 hro (by omega) Bs Bo w.heap.size sv zs hreach _ (by simp;omega) (by simp) ((hB0.cell (p:=⟨Bs,Bo,none⟩) hBs).trans hc) (hI.below hB0)) belowK_t (belowK_b (by simp)) (Below.refl _ _) (fun _=>rfl)
  (fun pre W=>(∃v,Boxed W w.heap.size 25 v∧W.ownsRow w.heap.size 3 1 v pre.length (pre.map (Value.int .i64))∧(v=.slice none 0 0↔pre=[]))∧Below w.heap.size w W)
  (fun _ _ _=>False)
  (OwnFrom.and (Own.from (holdsRow_own w.heap.size w.heap.size 25 3 1 (fun pre=>pre.length) (fun pre=>pre.map (Value.int .i64)) (fun pre v=>v=.slice none 0 0↔pre=[])) _) (ownFrom_below (Nat.le_refl _) (by simp)))
  (fun _ _ _ _ _ hs _ _=>hs)
  ⟨⟨_,bO,World.ownsRow_nil _ _ _ _,by simp⟩,hB0⟩
  (fun x=>{ tmps:=#[.slice none 0 0,.func (.func 156) #[] #[.pointer (some ⟨Bs,Bo,none⟩)],.pointer (some ⟨w.heap.size,0,none⟩),undef,.slice none 0 0,.int .i64 x,.func (.func 156) #[] #[.pointer (some ⟨Bs,Bo,none⟩)],.int .i64 x,undef,undef,undef,undef,undef],defers:=[] }) ?assign ?body ?done ?stop
 case assign =>
  intro l x W K hK
  gi_wp2
  exact hK
 case body =>
  rintro l pre x W ⟨⟨v,hv,hrow,hnil⟩,hB⟩ hlt
  have hc:=hv.cell
  gi_wp2_with (gi_at_builtin;refine wpListIn_append_own _ rfl _ _ 25 rfl w.heap.size 3 i0 (.int .i64 0) 1 8 Tryz.underlying25 hi hz0 hz1 hz2 rfl (by decide) _ _ _ rfl (hrow.alloc _) ⟨W.heap.size,0,none⟩ 1 1 [.int .i64 x] rfl rfl (cell_one_new _ _ _) (by simp[Value.oneCell']) (by unfold maxLen;omega) (by omega) (by have:=hB.size;simp;omega) ?_;intro v' w1 hown' hgrow _;obtain⟨g',cap',rfl⟩:=ownsRow_succ hown';obtain⟨hv1,hv2,hr2,hk2,hb2⟩:=hv.appended (by decide) hrow hB.size (Nat.le_refl _) hown' hgrow;have hc1:=hv1.cell;have hf1:=hv1.frozen)
  exact⟨hk2.from _,hb2,⟨_,hv2,by simpa using hr2,by simp⟩,hB.trans hb2⟩
 case done =>
  rintro D ys W hD rfl ⟨⟨v,hv,hrow,hnil⟩,hB⟩ hK
  have hc:=hv.cell
  gi_wp2
  refine⟨by simp,.inl ⟨_,_,rfl,run_takeDeferred hK,?_⟩⟩
  exact⟨_,results_tmp rfl _ _ _,v,rfl,ownsRow_putObj hrow _ hK rfl,hnil,hB.trans (belowK_b (w:=w) (Nat.le_refl _) W D _ _ (by simp at hD;omega) hK rfl rfl)⟩
 case stop =>
  rintro D c pre W _ _ h _
  exact h.elim
set_option maxHeartbeats 1000000 in
theorem collect_in (F:Fence) (n:Nat) (h2:F.fn 155) (h3:F.fn 176) (h7:F.fn 156) (hro:F.round=none) (hn:4≤n) (Bs Bo:Nat) (sv:Value) (zs:List Int) (hreach:zs.length*8≤140737488351232) (w:World)
  (hBs:Bs<w.heap.size) (hc:w.cell? ⟨Bs,Bo,none⟩=some sv) (hI:Ints w.heap.size w sv zs) :
  CallsIn F n Tryz.prog 155 #[.func (.func 156) #[] #[.pointer (some ⟨Bs,Bo,none⟩)]] w fun e W'=>∃v,e=.returned v∧W'.ownsRow w.heap.size 3 1 v zs.length (zs.map (Value.int .i64))∧(v=.slice none 0 0↔zs=[])∧Below w.heap.size w W':=by
 have h1:1≤n:=by omega
 refine callsIn_of_wp Tryz.func155 rfl h2 ?_ hro
 simp only[Tryz.ntmps155,List.size_toArray,List.length_cons,List.length_nil,Nat.reduceAdd,Nat.reduceSub,Array.replicate_succ,Array.replicate_zero,List.push_toArray,List.append_toArray,List.nil_append,List.cons_append]
 gi_wp2_with (gi_at_call 176;refine (appendSeq_in F (n-1) h3 h7 hro (by omega) Bs Bo sv zs hreach _ hBs hc hI).mono ?_;rintro e w' ⟨v,rfl,hrow,hnil,hb⟩)
 go_ret
 exact⟨v,rfl,hrow,hnil,hb⟩
theorem VS (a:Option Addr) (len cap:Nat) (w:World) :
  Calls Tryz.prog 116 #[.slice a len cap] w fun e w'=>e=.returned (.func (.func 156) #[] #[.pointer (some ⟨w.heap.size,0,none⟩)])∧w'=w.alloc (.cells #[.slice a len cap] 25):=by
 go_enter Tryz.func116,Tryz.ntmps116
 go_wp2
 go_ret
 exact⟨rfl,rfl⟩
set_option maxHeartbeats 1000000 in
theorem VK (Bs Bo:Nat) (sv:Value) (zs:List Int) (hreach:zs.length*8≤140737488351232) (w:World) (hBs:Bs<w.heap.size) (hc:w.cell? ⟨Bs,Bo,none⟩=some sv) (hI:Ints w.heap.size w sv zs) :
  Calls Tryz.prog 115 #[.func (.func 156) #[] #[.pointer (some ⟨Bs,Bo,none⟩)]] w fun e w'=>∃v,e=.returned v∧Below w.heap.size w w' ∧
   ((zs=[]∧v=.slice none 0 0)∨∃g cap cs,v=.slice (some ⟨g,0,none⟩) zs.length cap∧w.heap.size≤g∧w'.heap[g]? = some (.cells cs 3 (0,0))∧zs.length≤cap∧cap≤maxLen∧cs.size=cap∧∀j,j<zs.length→cs.getD j undef=.int .i64 ((gF zs).getD j 0)):=by
 refine (callsIn_wide (n:=6)).1 ?_
 have hN:(1:Nat)≤6:=by omega
 have cC:=collect_in Fence.wide 5 trivial trivial trivial rfl (by omega) Bs Bo sv zs hreach w hBs hc hI
 refine callsIn_of_wp Tryz.func115 rfl trivial ?_ rfl
 simp only[Tryz.ntmps115,List.size_toArray,List.length_cons,List.length_nil,Nat.reduceAdd,Nat.reduceSub,Array.replicate_succ,Array.replicate_zero,List.push_toArray,List.append_toArray,List.nil_append,List.cons_append]
 have hf1:Fence.wide.fn 155:=trivial
 have hf2:Fence.wide.fn 69:=trivial
 have cS:RR Tryz.prog 69:=fun blk off cap zs w hH hb hl=>Any.slices_Sort_int Tryz.Hu blk off cap zs w hH hb hl
 by_cases hz:zs=[]
 ·subst hz
  gi_wp2_with (first
   | (gi_at_call 155;refine cC.mono ?_;clear cC;rintro e w' ⟨v,rfl,hrow,hnil,hb⟩;obtain rfl:v=.slice none 0 0:=hnil.2 rfl)
   | (gi_at_call 69;refine (callsIn_wide.2 (Any.slices_Sort_int_none Tryz.Hu _ _ _)).mono ?_;rintro e2 w2 ⟨rfl,rfl⟩))
  go_ret
  first|exact⟨_,rfl,hb,.inl rfl⟩|exact⟨_,rfl,hb,.inl ⟨rfl,rfl⟩⟩
 ·gi_wp2_with (gi_at_call 155;refine cC.mono ?_;clear cC;rintro e w' ⟨v,rfl,hrow,hnil,hb⟩;obtain⟨g,cap,cur,rfl,k1,k2,k3,k4,k5,k6⟩:∃g cap cur,v=.slice (some ⟨g,0,none⟩) zs.length cap∧w.heap.size≤g∧w'.heap[g]? = some (.cells cur 3 (0,0))∧zs.length≤cap∧cap≤maxLen∧cur.size=cap*1∧cur.toList.take (zs.length*1)=zs.map (Value.int .i64):=hrow.2.resolve_left (fun hv=>hz (hnil.1 hv.1)))
  rw[Nat.mul_one]at k5 k6
  have hcur:∀j,j<zs.length→cur[j]? = some (.int .i64 (zs.getD j 0)):=by
   intro j hj
   have:(cur.toList.take zs.length)[j]? = (zs.map (Value.int .i64))[j]?:=by rw[k6]
   rw[List.getElem?_take,if_pos hj,List.getElem?_map,Array.getElem?_toList]at this
   rw[this]
   simp[List.getD,hj]
  have hH:Go.Sort.Holds (Value.int .i64) w' g 0 zs.toArray:=by
   intro j hj
   simp only[List.size_toArray]at hj
   refine⟨?_,by simp[World.frozen?,k2]⟩
   simp only[World.cell?,k2,Nat.zero_add]
   rw[hcur j hj]
   simp[List.getD,hj]
  have hlt:g<w'.heap.size:=(Array.getElem?_eq_some_iff.1 k2).1
  gi_wp2_with (gi_at_call 69;refine (callsIn_wide.2 (cS g 0 cap zs w' hH hlt (by omega))).mono ?_;rintro e2 w2 ⟨rfl,q,os,rfl⟩)
  go_ret
  refine⟨_,rfl,?_,.inr ⟨g,cap,Go.Sort.putCells (Value.int .i64) 0 (gF zs).toArray cur,rfl,k1,?_,k3,k4,?_,fun j hj =>?_⟩⟩
  ·refine⟨hb.os,hb.tape,hb.output,Nat.le_trans hb.size (by simp[Go.Sort.grow,Go.Sort.ahead]),fun k hk =>?_⟩
   have hk':k<w'.heap.size:=Nat.lt_of_lt_of_le hk hb.size
   rw[Go.Sort.heap_grow_old _ _ (by simpa [Go.Sort.ahead] using hk'),k9 (by omega)]
   exact hb.block k hk
  ·rw[Go.Sort.heap_grow_old _ _ (by simpa [Go.Sort.ahead] using hlt)]
   exact uf k2
  ·simp[Go.Sort.putCells,k5]
  ·rw[rO (by omega),if_pos (by rw[fP];omega),Nat.sub_zero]
theorem Rs:bH Tryz.prog 116 (eL (dJ (iE (eI .i64))) Be (fun r =>.clean (.clo 156 0 [.ip [.sl false false r.length (ab (eI .i64) r)]]))) where
 callable:=⟨_,Tryz.func116,by kernel_rfl,by kernel_rfl⟩
 calls lent ds rk out hg:=by
  obtain⟨rfl,rfl,l,r,rfl,hr,rfl⟩:=qp hg
  cases hr
  intro w M vs hM hargs
  have hsz:vs.size=1:=hargs.size
  rw[N1 hsz]
  have hu:=hargs.at_ 0 _ rfl
  generalize vs.getD 0 undef=u at *
  have hu':RP w M (.sl false false l.length (ab (eI .i64) l)) u:=hu
  obtain⟨A,c,rfl,-⟩:=GX hu'
  refine (VS A l.length c w).mono fun e w' ⟨he,hw⟩ =>?_
  subst hw
  have hb:Below w.heap.size w (w.alloc (.cells #[.slice A l.length c] 25)):=(Below.refl _ w).alloc (Nat.le_refl _) _
  have hk:∀b,b<w.heap.size→¬M b→b<(w.alloc (.cells #[.slice A l.length c] 25)).heap.size∧¬M b∧(w.alloc (.cells #[.slice A l.length c] 25)).heap[b]? = w.heap[b]?:=fun b h1 h2=>⟨by simp;omega,h2,hb.block b h1⟩
  refine⟨_,he,hb,RP.clo _ 0 _ [.pointer (some ⟨w.heap.size,0,none⟩)] rfl fun j x hj =>?_⟩
  cases j with
  | succ j=>simp at hj
  | zero =>
   simp only[List.getElem?_cons_zero,Option.some.injEq]at hj
   subst hj
   refine RP.ip _ ⟨w.heap.size,0,none⟩ (fun _ =>.slice A l.length c) (fun _=>⟨w.heap.size,0,rfl,by simp,fun h=>by have:=hM _ h;omega,fun j hj =>?_⟩) (fun j x hj =>?_) (fun x hx =>?_)
   ·simp only[List.length_cons,List.length_nil]at hj
    have:j=0:=by omega
    subst this
    exact (bz (heap_alloc_new w _) (j:=0) (by simp)).trans rfl
   ·cases j with
    | succ j=>simp at hj
    | zero =>
     simp only[List.getElem?_cons_zero,Option.some.injEq]at hj
     subst hj
     exact hu'.keep hk
   ·simp only[List.mem_singleton]at hx
    subst hx
    rfl
theorem Rh:bH Tryz.prog 115 (eL (dJ (RS 156 0 (dJ (RU (qG (eI .i64)))))) yg (fun r =>.fresh 3 1 r.length (ab (eI .i64) r))) where
 callable:=⟨_,Tryz.func115,by kernel_rfl,by kernel_rfl⟩
 calls lent ds rk out hg:=by
  obtain⟨rfl,rfl,l,r,rfl,hr,rfl⟩:=qp hg
  unfold yg at hr
  split at hr
  rotate_left
  ·cases hr
  rename_i hreach
  cases hr
  intro w M vs hM hargs
  have hsz:vs.size=1:=hargs.size
  rw[N1 hsz]
  have hu:=hargs.at_ 0 _ rfl
  generalize vs.getD 0 undef=u at *
  have hu':RP w M (.clo 156 0 [.ip [.sl false false l.length (ab (eI .i64) l)]]) u:=hu
  cases hu' with
  | clo f kk xs us h1 h2 =>
   have hp:=h2 0 _ rfl
   have hus:us=[us.getD 0 undef]:=by
    match us,h1 with
    | [x],_=>rfl
   rw[hus]
   generalize us.getD 0 undef=q at *
   cases hp with
   | ip xs ad us2 h6 h7 h8 =>
    obtain⟨b,o,rfl,hb,hMb,hcell⟩:=h6 (by simp)
    have hcell0:=hcell 0 (by simp)
    rw[Nat.add_zero]at hcell0
    have hs:=h7 0 _ rfl
    have hI:Ints w.heap.size w (us2 0) l:=by
     obtain⟨A,c,hA,k1,k2,k3,k4⟩:=GX hs
     rw[hA]
     by_cases hl:l=[]
     ·subst hl;exact .inl ⟨A,c,rfl,rfl⟩
     ·obtain⟨b',o',rfl,hb',hM',hc'⟩:=k4 hl
      exact .inr ⟨b',o',c,rfl,hb',fun j hj=>by rw[hc' j hj];simp[List.getD]⟩
    refine (VK b o (us2 0) l hreach w hb hcell0 hI).mono fun e w' ⟨v,he,hbw,hv⟩ =>?_
    refine⟨v,he,hbw,?_⟩
    rcases hv with⟨rfl,rfl⟩|⟨g,cap,cs,rfl,k1,k2,k3,k4,k5,k6⟩
    ·refine .inr ⟨?_,?_,none,rfl⟩
     ·rw[zk];rfl
     ·rw[zk];rfl
    ·refine .inl ⟨(g,0),cap,cs,by rw[fP],.inl k1,k2,by rw[fP];exact k3,k4,by simp only;omega,by rw[cl,fP];simp only;omega,fun j d hj =>?_⟩
     have hjl:=(List.getElem?_eq_some_iff.1 hj).1
     rw[cl,fP]at hjl
     rw[ji,Option.map_eq_some_iff]at hj
     obtain⟨z,hz,rfl⟩:=hj
     simp only[Nat.zero_add]
     rw[k6 j hjl]
     have:(gF l).getD j 0=z:=by simp[List.getD,hz]
     rw[this]
     exact⟨rfl,.int _ _⟩
end Go.Proofs.YtpkahnkoecbndaaGreatDoor.Am
namespace Go.Proofs.YtpkahnkoecbndaaGreatDoor.Am
open Go.RowKit Go.Proofs.YtpkahnkoecbndaaGreatDoor.P Go.Shelf
set_option linter.unusedSimpArgs false
set_option linter.unusedVariables false
theorem WC:(Tryz.prog.info? 150).map (·.size)=some 2:=by kernel_rfl
theorem Yd:liesAt Tryz.prog Tryz.prog.depth 150 (2 / Tryz.prog.cellsOf 150) 0 150 1=true:=by kernel_rfl
theorem W5:(Tryz.prog.info? 5).map (fun i=>(i.zero,i.size,i.bytes))=some (some (.int .u8 0),1,1):=by kernel_rfl
set_option maxRecDepth 100000 in
theorem U8 (b:Nat) (w:World) (h0:w.cell? ⟨b,0,none⟩=some (.pointer (some ⟨b,0,none⟩))) :
  Calls Tryz.prog 160 #[.pointer (some ⟨b,0,none⟩)] w fun e w'=>e=.returned (.tuple #[])∧w'=w:=by
 obtain⟨j,hj,_⟩:=Option.map_eq_some_iff.1 WC
 go_enter Tryz.func160,Tryz.ntmps160
 go_wp2
 rw[Lib.run_neq_ptr_same w _ Tryz.underlying147 hj]
 go_wp2
 go_end0
 exact⟨rfl,rfl⟩
set_option maxHeartbeats 1000000 in
set_option maxRecDepth 100000 in
theorem Sn (b:Nat) (w:World) (h0:w.cell? ⟨b,0,none⟩=some (.pointer none)) (hsh:w.shape? b=some (150,2)) (hfz:w.frozen? ⟨b,0,none⟩=false) :
  Calls Tryz.prog 160 #[.pointer (some ⟨b,0,none⟩)] w fun e w'=>e=.returned (.tuple #[])∧w'=w.setCell ⟨b,0,none⟩ (.pointer (some ⟨b,0,none⟩)):=by
 obtain⟨j,hj,hjs⟩:=Option.map_eq_some_iff.1 WC
 go_enter Tryz.func160,Tryz.ntmps160
 go_wp2
 rw[Lib.run_to_unsafe w ⟨b,0,none⟩ Tryz.underlying147 Tryz.underlying192 hj (by rw[hjs];decide) hsh (Nat.zero_lt_succ 1)]
 simp only[Result.andThen]
 rw[Oper.upon_value]
 go_wp2
 rw[run_callFunc_extern Tryz.func178 (by kernel_rfl) (by kernel_rfl) (by kernel_rfl) (e:=Extern.AbiNoEscape.same) (by kernel_rfl)]
 rw[Lib.run_noEscape]
 simp only[Result.andThen]
 rw[Oper.upon_value]
 go_wp2
 rw[Lib.run_from_unsafe w ⟨b,0,none⟩ Tryz.underlying192 Tryz.underlying147 hj hsh Yd]
 simp only[Result.andThen]
 rw[Oper.upon_value]
 go_wp2
 go_end0
 exact⟨rfl,rfl⟩
theorem Qi (B b:Nat) (bs:List Value) (w:World) (h:Lib.IsBuilder 150 5 B b bs w) :
  Calls Tryz.prog 160 #[.pointer (some ⟨b,0,none⟩)] w fun e w'=>e=.returned (.tuple #[])∧(Lib.BuilderAt 150 5 B b (.pointer (some ⟨b,0,none⟩)) bs w'∧Below B w w'):=by
 rcases h with h|h
 ·refine (Sn b w h.cell0 h.shape h.frozen0).mono ?_
  rintro e w' ⟨rfl,rfl⟩
  exact⟨rfl,h.used _,(Below.refl B w).setCell (p:=⟨b,0,none⟩) h.1 _⟩
 ·refine (U8 b w h.cell0).mono ?_
  rintro e w' ⟨rfl,rfl⟩
  exact⟨rfl,h,Below.refl B _⟩
set_option maxHeartbeats 2000000 in
set_option maxRecDepth 100000 in
theorem XF (B b:Nat) (bs:List Value) (s:ByteArray) (w:World) (h:Lib.IsBuilder 150 5 B b bs w) (hlen:bs.length+s.size≤140737488355328) (hBw:B≤w.heap.size) :
  Calls Tryz.prog 120 #[.pointer (some ⟨b,0,none⟩),.string s] w fun e w'=>e=.returned (.tuple #[.int .i64 s.size,.nilIface])∧(Lib.BuilderAt 150 5 B b (.pointer (some ⟨b,0,none⟩)) (bs++Lib.strCells s) w'∧Below B w w'):=by
 obtain⟨i0,hi,hz0,hz1,hz2⟩:=info_parts W5
 go_enter Tryz.func120,Tryz.ntmps120
 go_wp2_with (go_at_call 160;refine (Qi B b bs _ h).mono ?_)
 rintro e w1 ⟨rfl,h1,hb1⟩
 obtain⟨hB,v,hbk,hown,hne⟩:=h1
 have c0:w1.cell? ⟨b,0,none⟩=some (.pointer (some ⟨b,0,none⟩)):=by rw[Lib.cell_of_heap hbk];rfl
 have c1:w1.cell? ⟨b,1,none⟩=some v:=by rw[Lib.cell_of_heap hbk];rfl
 go_wp2_with (at_builtin;refine Lib.wpList_append_own_string _ rfl _ _ 148 9 rfl B 5 i0 Tryz.underlying148 Tryz.underlying9 hi hz0 hz1 hz2 _ _ _ rfl hown s rfl ?c3 ?c4 ?c5 ?_)
 case c3=>unfold maxLen;omega
 case c4=>omega
 case c5=>have:=hb1.size;omega
 intro v' w2 hown' hgrow _
 have hlt:b<w1.heap.size:=(Array.getElem?_eq_some_iff.1 hbk).1
 have hb2:w2.heap[b]? = some (.cells #[.pointer (some ⟨b,0,none⟩),v] 150 (0,0)):=by
  rw[hgrow.block b hlt (fun e=>hne e.symm)]
  exact hbk
 have d0:w2.cell? ⟨b,0,none⟩=some (.pointer (some ⟨b,0,none⟩)):=by rw[Lib.cell_of_heap hb2];rfl
 have d1:w2.cell? ⟨b,1,none⟩=some v:=by rw[Lib.cell_of_heap hb2];rfl
 have f1:w2.frozen? ⟨b,1,none⟩=false:=Lib.frozen_of_heap hb2 1
 obtain⟨ao,n',cap,rfl⟩:∃ao n' cap,v'=.slice ao n' cap:=by
  rcases hown'.2 with⟨hv,_⟩|⟨g,cap,cur,hv,_⟩
  ·exact⟨_,_,_,hv⟩
  ·exact⟨_,_,_,hv⟩
 go_wp2
 go_ret2
 refine⟨rfl,?_,?_⟩
 ·exact Lib.BuilderAt.put (T:=150) (e:=5) hB hb2 (bs':=bs++Lib.strCells s) (by simpa [Lib.strCells_length] using hown') (by decide)
 ·exact (hb1.grown hgrow (by have:=hb1.size;omega) (fun k hk=>(hown.lt k hk).1)).setCell (p:=⟨b,1,none⟩) hB _
theorem PJ (B b:Nat) (l:List UInt8) (w:World) (h:Lib.IsBuilder 150 5 B b (Lib.byteCells l) w) (hBw:B≤w.heap.size) :
  Calls Tryz.prog 122 #[.pointer (some ⟨b,0,none⟩)] w fun e w'=>e=.returned (.string ⟨l.toArray⟩)∧Below B w w':=Any.Builder_String_any Tryz.Vp Tryz.SO B b l w h hBw
theorem T2 {P:Program} {w:World} {nm:String} {g ty:Nat} {fr:Nat×Nat} (hg:P.globalNamed nm=some g) (h:w.heap[g]? = some (.cells mZ ty fr)):Lib.TabIs P w nm .u64 Lib.pow10Tab:=by
 simp only[Lib.TabIs,World.var?,hg,Option.bind_some,h]
 simp[Lib.pow10Tab,mZ]
theorem Mk (w:World) (k:Nat) (os:Array Obj):Below w.heap.size w (Go.Sort.grow (w.drewN k) os) :=
 ⟨rfl,rfl,rfl,by simp[Go.Sort.grow],fun j hj=>Go.Sort.heap_grow_old (w.drewN k) os hj⟩
theorem Ta:XN Tryz.prog 121:=fun n w h0 h1 ht=>by
 refine (Any.strconv_Itoa Tryz.Te n h0 h1 w ?_).mono ?_
 ·obtain⟨ty,fr,h⟩:=ht 0 rfl
  exact T2 (by kernel_rfl) h
 ·rintro e w' ⟨rfl,k,os,rfl⟩
  exact⟨rfl,Mk w k os⟩
theorem Bv (a b:List UInt8):(⟨a.toArray⟩:ByteArray)++⟨b.toArray⟩=⟨(a++b).toArray⟩:=by
 apply ByteArray.ext
 simp
theorem wS (n:Int) (h0 : -9223372036854775808≤n) (h1:n≤9223372036854775807):(CG n).size≤21:=by
 have:=Lib.itoa_length_le n h0 h1
 simpa [CG,ByteArray.size] using this
theorem VW (n:Int) (w:World) (h0 : -9223372036854775808≤n) (h1:n≤9223372036854775807) (ht:∀b,se=some b→∃ty fr,w.heap[b]? = some (.cells mZ ty fr)) :
  Calls Tryz.prog 94 #[.int .i64 n] w fun e w'=>e=.returned (.string ⟨(Lib.itoa n++[59]).toArray⟩)∧Below w.heap.size w w':=by
 have hsz:=wS n h0 h1
 have e1:CG n++⟨#[59]⟩=⟨(Lib.itoa n++[59]).toArray⟩:=Bv (Lib.itoa n) [59]
 go_enter Tryz.func94,Tryz.ntmps94
 go_wp2_with (go_at_call 121;refine (Ta n _ h0 h1 ht).mono ?_;rintro e w' ⟨rfl,hb⟩)
 go_ret
 exact⟨rfl,hb⟩
theorem O3 (w:World):Lib.IsBuilder 150 5 w.heap.size w.heap.size [] (w.alloc (.cells #[.pointer none,.slice none 0 0] 150)) :=
 .inl ⟨Nat.le_refl _,.slice none 0 0,heap_alloc_new w _,World.ownsRow_nil _ _ _ _,by simp[Value.ownBlock]⟩
theorem N5 (B b:Nat) (bs t:List UInt8) (w:World) (h:Lib.IsBuilder 150 5 B b (Lib.byteCells bs) w) (hlen:bs.length+t.length≤140737488355328) (hBw:B≤w.heap.size) :
  Calls Tryz.prog 120 #[.pointer (some ⟨b,0,none⟩),.string ⟨t.toArray⟩] w fun e w'=>∃v,e=.returned v∧(Lib.BuilderAt 150 5 B b (.pointer (some ⟨b,0,none⟩)) (Lib.byteCells (bs++t)) w'∧Below B w w'):=by
 have e1:Lib.strCells ⟨t.toArray⟩=Lib.byteCells t:=rfl
 have e2:(⟨t.toArray⟩:ByteArray).size=t.length:=List.size_toArray
 generalize hS:(⟨t.toArray⟩:ByteArray)=S at *
 refine (XF B b (Lib.byteCells bs) S w h (by rw[Lib.byteCells_length,e2];exact hlen) hBw).mono ?_
 rintro e w' ⟨he,h1,h2⟩
 rw[e1,← Lib.byteCells_append]at h1
 exact⟨_,he,h1,h2⟩
theorem EE {w w':World} {B ty s n:Nat} {v:Value} {xs:List Value} (h:w.ownsRow B ty s v n xs) (hb:Below w.heap.size w w'):w'.ownsRow B ty s v n xs:=by
 obtain⟨h1,h2⟩:=h
 refine⟨h1,?_⟩
 rcases h2 with h2|⟨g,cap,cur,k1,k2,k3,k4⟩
 ·exact .inl h2
 ·exact .inr ⟨g,cap,cur,k1,k2,(hb.block g (Array.getElem?_eq_some_iff.1 k3).1).trans k3,k4⟩
theorem pW {w w':World} {B b:Nat} {p:Value} {bs:List Value} (h:Lib.BuilderAt 150 5 B b p bs w) (hb:Below w.heap.size w w'):Lib.BuilderAt 150 5 B b p bs w':=by
 obtain⟨h1,v,h2,h3,h4⟩:=h
 exact⟨h1,v,(hb.block b (Array.getElem?_eq_some_iff.1 h2).1).trans h2,EE h3 hb,h4⟩
theorem F2 {w w':World} {B b:Nat} {bs:List Value} (h:Lib.IsBuilder 150 5 B b bs w) (hb:Below w.heap.size w w'):Lib.IsBuilder 150 5 B b bs w':=h.imp (pW · hb) (pW · hb)
theorem GM (l:List Int) {k:Nat} (hk:k<l.length):iZ (l.take (k+1))=iZ (l.take k)++(Lib.itoa (l.getD k 0)++[59]):=by
 rw[List.take_add_one,List.getElem?_eq_getElem hk]
 simp only[iZ,List.flatMap_append,Option.toList_some,List.flatMap_cons,List.flatMap_nil,List.append_nil]
 simp[List.getD,hk]
theorem Vt (l:List Int) (k:Nat):(iZ (l.take k)).length≤(iZ l).length:=by
 have:l=l.take k++l.drop k:=(List.take_append_drop k l).symm
 have h2:iZ l=iZ (l.take k)++iZ (l.drop k):=by
  conv=>lhs;rw[this]
  simp only[iZ,List.flatMap_append]
 rw[h2]
 simp
end Go.Proofs.YtpkahnkoecbndaaGreatDoor.Am
