import Derived.Test.YtmcncjgbkobjnaaGreatJc
set_option linter.unusedSimpArgs false
set_option linter.unusedVariables false
noncomputable section
open Go.Proofs.Tryz
namespace Go.Proofs.YtmcncjgbkobjnaaGreat.Am
open Go.RowKit
inductive W where
 | code (c:Code)
 | blk (id:Nat)
section
variable (T:Nat->Option Ty) (Γ:Env) (N F:Nat)
def cA:List W->Kt->Kt
 | [],Q=>Q
 | .code c::ws,Q=>fun x t h e=>adV x (PE T Γ N F c t h e (cA ws Q)) (cA ws Q x t h e)
 | .blk id::ws,Q=>fun x t h e=>WV id x t h e (cA ws Q)
def jy (ops l:List Oper) (ws:List W) (Q:Kt) (t:Nat->D) (h:Nat->Option Row) (e:Nat):Prop :=
 EJ T Γ N e ops l t h fun t h=>cA T Γ N F ws Q .normal t h (e+1)
def ki (ops l:List Oper) (ws:List W) (Q:Kt) (t:Nat->D) (h:Nat->Option Row) (e:Nat) (fs:List ju):Prop :=
 runK T Γ N e ops l t h fs fun t h fs=>CI ops.toArray fs=true∧cA T Γ N F ws Q .normal t h (e+1)
def ny (o:Oper) (ops l:List Oper) (ws:List W) (Q:Kt) (t:Nat->D) (h:Nat->Option Row) (e:Nat):Prop :=
 PC T Γ e o t h fun t E=>jy T Γ N F ops l ws Q (dV t o.dst E.val) (aH h E.hw) e
def nA (o:Oper) (ops l:List Oper) (ws:List W) (Q:Kt) (t:Nat->D) (h:Nat->Option Row) (e:Nat) (fs:List ju):Prop :=
 PC T Γ e o t h fun t E=>ki T Γ N F ops l ws Q (dV t o.dst E.val) (aH h E.hw) e (fs++[⟨bl o (ev t),E.hw.isEmpty⟩])
def vG (d:D) (g:Nat) (want:Bool) (o:Oper) (ops l:List Oper) (ws:List W) (Q:Kt) (t:Nat->D) (h:Nat->Option Row) (e:Nat):Prop :=
 wpS d t g (fun t=>if want then ny T Γ N F o ops l ws Q t h e else jy T Γ N F ops l ws Q (dV t o.dst .skp) h e) (fun t=>if want then jy T Γ N F ops l ws Q (dV t o.dst .skp) h e else ny T Γ N F o ops l ws Q t h e) (fun t=>jy T Γ N F ops l ws Q (dV t o.dst .skp) h e)
def vH (d:D) (g:Nat) (want:Bool) (o:Oper) (ops l:List Oper) (ws:List W) (Q:Kt) (t:Nat->D) (h:Nat->Option Row) (e:Nat) (fs:List ju):Prop :=
 wpS d t g (fun t=>if want then nA T Γ N F o ops l ws Q t h e fs else ki T Γ N F ops l ws Q (dV t o.dst .skp) h e (fs++[⟨[],true⟩])) (fun t=>if want then ki T Γ N F ops l ws Q (dV t o.dst .skp) h e (fs++[⟨[],true⟩]) else nA T Γ N F o ops l ws Q t h e fs) (fun t=>ki T Γ N F ops l ws Q (dV t o.dst .skp) h e (fs++[⟨[],true⟩]))
def ER (x y:Option bu) (dst:Option Nat) (ops l:List Oper) (ws:List W) (Q:Kt) (t:Nat->D) (h:Nat->Option Row) (e:Nat):Prop :=
 ot (or2 h x y) fun E=>jy T Γ N F ops l ws Q (dV t dst E.val) (aH h E.hw) e
def ES (x y:Option bu) (dst:Option Nat) (ft:List Nat) (ops l:List Oper) (ws:List W) (Q:Kt) (t:Nat->D) (h:Nat->Option Row) (e:Nat) (fs:List ju):Prop :=
 ot (or2 h x y) fun E=>ki T Γ N F ops l ws Q (dV t dst E.val) (aH h E.hw) e (fs++[⟨ft,E.hw.isEmpty⟩])
def yC (x:Option bu) (dst:Option Nat) (ops l:List Oper) (ws:List W) (Q:Kt) (t:Nat->D) (h:Nat->Option Row) (e:Nat):Prop:=ER T Γ N F x none dst ops l ws Q t h e
def yD (x:Option bu) (dst:Option Nat) (ft:List Nat) (ops l:List Oper) (ws:List W) (Q:Kt) (t:Nat->D) (h:Nat->Option Row) (e:Nat) (fs:List ju):Prop:=ES T Γ N F x none dst ft ops l ws Q t h e fs
def FW (y:Option bu) (dst:Option Nat) (ops l:List Oper) (ws:List W) (Q:Kt) (t:Nat->D) (h:Nat->Option Row) (e:Nat):Prop :=
 ot y fun E=>jy T Γ N F ops l ws Q (dV t dst E.val) (aH h E.hw) e
def FX (y:Option bu) (dst:Option Nat) (ft:List Nat) (ops l:List Oper) (ws:List W) (Q:Kt) (t:Nat->D) (h:Nat->Option Row) (e:Nat) (fs:List ju):Prop :=
 ot y fun E=>ki T Γ N F ops l ws Q (dV t dst E.val) (aH h E.hw) e (fs++[⟨ft,E.hw.isEmpty⟩])
def KF (d:D) (g:Nat) (x y:Code) (ws:List W) (Q:Kt) (t:Nat->D) (h:Nat->Option Row) (e:Nat):Prop :=
 RW d t g (fun t=>cA T Γ N F (.code x::ws) Q .normal t h e) (fun t=>cA T Γ N F (.code y::ws) Q .normal t h e)
def YK (d:D) (g:Nat) (a b:Operand) (dst:Option Nat) (ops l:List Oper) (ws:List W) (Q:Kt) (t:Nat->D) (h:Nat->Option Row) (e:Nat):Prop :=
 RW d t g (fun t=>jy T Γ N F ops l ws Q (dV t dst (ev t a)) h e) (fun t=>jy T Γ N F ops l ws Q (dV t dst (ev t b)) h e)
def YL (d:D) (g:Nat) (a b:Operand) (dst:Option Nat) (ops l:List Oper) (ws:List W) (Q:Kt) (t:Nat->D) (h:Nat->Option Row) (e:Nat) (fs:List ju):Prop :=
 RW d t g (fun t=>ki T Γ N F ops l ws Q (dV t dst (ev t a)) h e (fs++[⟨[],true⟩])) (fun t=>ki T Γ N F ops l ws Q (dV t dst (ev t b)) h e (fs++[⟨[],true⟩]))
def TR (b:Code) (ws:List W) (Q:Kt) (t:Nat->D) (h:Nat->Option Row) (e:Nat):Prop:=PE T Γ N F (.loop b) t h e (cA T Γ N F ws Q)
end
theorem HI {n:Nat} (h:n<=1000000):n<=maxLen:=afT h (by decide)
theorem Iv {z:List D} : lG 0 z=[]:=aiu
theorem Iu {n:Nat} {z:List D} : lG (n+1) z=z++lG n z:=by simp[lG,List.replicate_succ]
theorem Ho {N:Nat} : fits N none=true:=aiu
theorem Hp {N i:Nat} : fits N (some i)=decide (i<N):=aiu
def s6:List Oper->Nat->Nat
 | [],_=>0
 | o::_,0=>o.dst.getD 0
 | _::l,j+1=>s6 l j
def xM:List Oper->Nat->Bool
 | [],_=>false
 | o::_,0=>o.dst.isSome
 | _::l,j+1=>xM l j
theorem CE:∀(l:List Oper) (j:Nat),xM l j=true->(l[j]?).bind (·.dst)=some (s6 l j)
 | [],j,h=>by simp[xM]at h
 | o::l,0,h=>by
  simp only[xM]at h
  simp only[List.getElem?_cons_zero,Option.bind_some,s6]
  cases hd:o.dst with
  | none=>rw[hd]at h;cases h
  | some d=>rfl
 | o::l,j+1,h=>by simpa [s6] using CE l j h
theorem CG {d:Nat} {op:Op} {ty:Nat} {pos:String} {af:Array Edge} {gd:Option (Nat×Bool)} {l:List Oper} : s6 (⟨some d,op,ty,pos,af,gd⟩::l) 0=d:=aiu
theorem CF {o:Oper} {l:List Oper} {j:Nat} : s6 (o::l) (j+1)=s6 l j:=aiu
theorem Dn {d:Nat} {op:Op} {ty:Nat} {pos:String} {af:Array Edge} {gd:Option (Nat×Bool)} {l:List Oper} : xM (⟨some d,op,ty,pos,af,gd⟩::l) 0=true:=aiu
theorem Dm {o:Oper} {l:List Oper} {j:Nat} : xM (o::l) (j+1)=xM l j:=aiu
section
variable {dst:Option Nat} {ty:Nat} {pos:String} {af:Array Edge} {gd:Option (Nat×Bool)} {vs:Operand->D}
def x4 (vs:Operand->D):List Operand->List Nat
 | []=>[]
 | x::l=>nm (vs x)++x4 vs l
theorem fc (vs:Operand->D):∀l:List Operand,(l.flatMap fun x=>nm (vs x))=x4 vs l
 | []=>Eq.trans rfl rfl
 | x::l=>by rw[List.flatMap_cons,fc vs l];exact Eq.trans rfl rfl
theorem TC:x4 vs []=[]:=aiu
theorem Oa {x:Operand} {l:List Operand} : x4 vs (x::l)=nm (vs x)++x4 vs l:=aiu
theorem A2 {o:BinOp} {tt z:Nat} {x y:Operand} : bl ⟨dst,.binOp o tt x y z,ty,pos,af,gd⟩ vs=(x4 vs [x,y]++dst.toList).map rt:=by rw[<- fc];rfl
theorem EY {o:UnOp} {tt:Nat} {x:Operand} : bl ⟨dst,.unOp o tt x,ty,pos,af,gd⟩ vs=(x4 vs [x]++dst.toList).map rt:=by rw[<- fc];rfl
theorem yE {x:Operand} : bl ⟨dst,.assign x,ty,pos,af,gd⟩ vs=(x4 vs [x]++dst.toList).map rt:=by rw[<- fc];rfl
theorem EX {tt:Nat} {x:Operand} : bl ⟨dst,.load tt x,ty,pos,af,gd⟩ vs=(x4 vs [x]++dst.toList).map rt:=by rw[<- fc];rfl
theorem A7 {tt:Nat} {x y:Operand} : bl ⟨dst,.store tt x y,ty,pos,af,gd⟩ vs=(x4 vs [x,y]++dst.toList).map rt:=by rw[<- fc];rfl
theorem tU {x:Operand} : bl ⟨dst,.nilCheck x,ty,pos,af,gd⟩ vs=(x4 vs [x]++dst.toList).map rt:=by rw[<- fc];rfl
theorem sj {tt i:Nat} {x:Operand} : bl ⟨dst,.fieldAddr tt x i,ty,pos,af,gd⟩ vs=(x4 vs [x]++dst.toList).map rt:=by rw[<- fc];rfl
theorem A4 {tt i:Nat} {x:Operand} : bl ⟨dst,.field tt x i,ty,pos,af,gd⟩ vs=(x4 vs [x]++dst.toList).map rt:=by rw[<- fc];rfl
theorem sk {tt:Nat} {x i:Operand} : bl ⟨dst,.indexAddr tt x i,ty,pos,af,gd⟩ vs=(x4 vs [x,i]++dst.toList).map rt:=by rw[<- fc];rfl
theorem A5 {tt:Nat} {x i:Operand} : bl ⟨dst,.index tt x i,ty,pos,af,gd⟩ vs=(x4 vs [x,i]++dst.toList).map rt:=by rw[<- fc];rfl
theorem sn {tt:Nat} {x y:Operand} : bl ⟨dst,.makeSlice tt x y,ty,pos,af,gd⟩ vs=(x4 vs [x,y]++dst.toList).map rt:=by rw[<- fc];rfl
theorem A1 {tt:Nat} : bl ⟨dst,.alloc tt,ty,pos,af,gd⟩ vs=(x4 vs []++dst.toList).map rt:=by rw[<- fc];rfl
theorem I5 {tt:Nat} {x:Operand} : bl ⟨dst,.box tt x,ty,pos,af,gd⟩ vs=(x4 vs [x]++dst.toList).map rt:=by rw[<- fc];rfl
theorem wh {tt:Nat} : bl ⟨dst,.makeMap tt none,ty,pos,af,gd⟩ vs=(x4 vs []++dst.toList).map rt:=by rw[<- fc];rfl
theorem yG {tt:Nat} {m i:Operand} {ok:Bool} : bl ⟨dst,.lookup tt m i ok,ty,pos,af,gd⟩ vs=(x4 vs [m,i]++dst.toList).map rt:=by rw[<- fc];rfl
theorem so {tt:Nat} {m i x:Operand} : bl ⟨dst,.mapUpdate tt m i x,ty,pos,af,gd⟩ vs=(x4 vs [m,i,x]++dst.toList).map rt:=by rw[<- fc];rfl
theorem yF {tt:Nat} {m i x:Operand} : bl ⟨dst,.insert tt m i x,ty,pos,af,gd⟩ vs=(x4 vs [m,i,x]++dst.toList).map rt:=by rw[<- fc];rfl
theorem we {a b:Nat} {x:Operand} : bl ⟨dst,.convert a b x,ty,pos,af,gd⟩ vs=(x4 vs [x]++dst.toList).map rt:=by rw[<- fc];rfl
theorem wg {x:Operand} {i:Nat} : bl ⟨dst,.extract x i,ty,pos,af,gd⟩ vs=(x4 vs [x]++dst.toList).map rt:=by rw[<- fc];rfl
theorem A3 {tt:Nat} {ps:List (Nat×Operand)} : bl ⟨dst,.build tt ps.toArray,ty,pos,af,gd⟩ vs=(x4 vs (ps.map (·.2))++dst.toList).map rt:=by rw[<- fc];rfl
theorem qn {tt len:Nat} {ps:List (Nat×Operand)} : bl ⟨dst,.buildSlice tt len ps.toArray,ty,pos,af,gd⟩ vs=(x4 vs (ps.map (·.2))++dst.toList).map rt:=by rw[<- fc];rfl
theorem A6 {tt:Nat} {x:Operand} {lo hi mx:Option Operand} : bl ⟨dst,.slice tt x lo hi mx,ty,pos,af,gd⟩ vs=(x4 vs (x::(lo.toList++(hi.toList++mx.toList)))++dst.toList).map rt:=by
 rw[<- fc];cases lo<;>cases hi<;>cases mx<;>rfl
theorem EW {x:Operand} {l:List Operand} {tys:Array Nat} : bl ⟨dst,.call ⟨.value x,l.toArray,tys⟩,ty,pos,af,gd⟩ vs=(x4 vs (x::l)++dst.toList).map rt:=by
 rw[<- fc];simp[bl,fI,Op.operands,Call.operands]
theorem wc {x:Builtin} {l:List Operand} {tys:Array Nat} : bl ⟨dst,.call ⟨.builtin x,l.toArray,tys⟩,ty,pos,af,gd⟩ vs=(x4 vs l++dst.toList).map rt:=by
 rw[<- fc];simp[bl,fI,Op.operands,Call.operands]
end
section
variable {T:Nat->Option Ty} {ty e:Nat} {dst:Option Nat} {h:Nat->Option Row}
theorem Sm {k:IntKind} {n:Int} : bG T ty e dst h (.int k n)=some ⟨.int k n,[]⟩:=aiu
theorem K3 {b:Bool} : bG T ty e dst h (.bool b)=some ⟨.bool b,[]⟩:=aiu
theorem Sr {b:ByteArray} : bG T ty e dst h (.str b)=some ⟨.str b,[]⟩:=aiu
theorem WS {tg:Bool} {n:Nat} {xs:List D} : bG T ty e dst h (.sl false tg n xs)=some ⟨.sl false tg n xs,[]⟩:=aiu
theorem Sq {x v o:Nat} : bG T ty e dst h (.ptr x v o)=some ⟨.ptr x v o,[]⟩:=aiu
theorem WN {xs:List D} : bG T ty e dst h (.ip xs)=some ⟨.ip xs,[]⟩:=aiu
theorem Sk {xs:List D} : bG T ty e dst h (.agg xs)=some ⟨.agg xs,[]⟩:=aiu
theorem Ss {xs:List D} : bG T ty e dst h (.tup xs)=some ⟨.tup xs,[]⟩:=aiu
theorem WM {f:Nat} : bG T ty e dst h (.fn f)=some ⟨.fn f,[]⟩:=aiu
theorem WQ {x v:Nat} : bG T ty e dst h (.mp x v)=some ⟨.mp x v,[]⟩:=aiu
theorem Sn {ks:List bV} {vs:List D} : bG T ty e dst h (.mpc ks vs)=some ⟨.mpc ks vs,[]⟩:=aiu
theorem WR {x v y:Nat} : bG T ty e dst h (.pm x v y)=some ⟨.pm x v y,[]⟩:=aiu
theorem By {f kk:Nat} {xs:List D} : bG T ty e dst h (.clo f kk xs)=some ⟨.clo f kk xs,[]⟩:=aiu
def ab8 (b:Bool) (T:Nat->Option Ty) (ty e d:Nat) (h:Nat->Option Row) (x:D):Option bu:=if b then bG T ty e (some d) h x else gF h x
theorem Ge {d:Nat} {x:D} : ab8 true T ty e d h x=bG T ty e (some d) h x:=aiu
theorem B3 {d:Nat} {x:D} : ab8 false T ty e d h x=gF h x:=aiu
theorem abj {q:Nat->Bool} {d:Nat} {x:D} : pH T q ty e (some d) h x=ab8 (q d) T ty e d h x:=aiu
theorem Sh {k:IntKind} {n:Int} : gF h (.int k n)=some ⟨.int k n,[]⟩:=aiu
theorem KW {b:Bool} : gF h (.bool b)=some ⟨.bool b,[]⟩:=aiu
theorem Si {b:ByteArray} : gF h (.str b)=some ⟨.str b,[]⟩:=aiu
theorem Sf {xs:List D} : gF h (.agg xs)=some ⟨.agg (xs.map canon),[]⟩:=aiu
theorem WA {a b:Bool} {n:Nat} {xs:List D} : gF h (.sl a b n xs)=some ⟨.sl false false n xs,[]⟩:=aiu
theorem Su:bG T ty e dst h .und=some ⟨.und,[]⟩:=aiu
def aan (e d y s o n:Nat) (r:Row):Bool->Option bu
 | true=>some ⟨.buf y r.v s o n,[]⟩
 | false=>some ⟨.buf d e s o n,[(y,none),(d,some { r with v:=e })]⟩
theorem B2 {d y s o n:Nat} {r:Row} : aan e d y s o n r false=some ⟨.buf d e s o n,[(y,none),(d,some { r with v:=e })]⟩:=aiu
def ab7 (y v s o n:Nat):Option Row->Option bu
 | some _=>some ⟨.buf y v s o n,[]⟩
 | none=>some ⟨.und,[]⟩
theorem Ga {y v s o n:Nat} {r:Row} : ab7 y v s o n (some r)=some ⟨.buf y v s o n,[]⟩:=aiu
def WL (e:Nat) (dst:Option Nat) (y s o n:Nat) (w:Option bu):Option Row->Option bu
 | some r=>match dst with|some d=>aan e d y s o n r r.fz|none=>w
 | none=>w
theorem Gc {d y s o n:Nat} {r:Row} {w:Option bu} : WL e (some d) y s o n w (some r)=aan e d y s o n r r.fz:=aiu
theorem Gb {d y s o n:Nat} {w:Option bu} : WL e (some d) y s o n w none=w:=aiu
theorem Sl {d y v s o n:Nat} : bG T ty e (some d) h (.buf y v s o n)=WL e (some d) y s o n (ab7 y v s o n (ml h y v)) (live h y v):=by
 simp only[bG]
 cases hl:live h y v with
 | none=>simp only[WL];cases ml h y v<;>simp[ab7]
 | some r =>
  obtain⟨_,hv⟩:=bU hl
  simp only[WL]
  cases hz:r.fz<;>simp[aan,hv,hz]
def aao (e:Nat) (dst:Option Nat) (T:Nat->Option Ty):Option Ty->Option bu
 | some τ =>
  match dst with
  | some d=>match τ.ds with
   | .slice el=>match T el with|some φ=>some ⟨.buf d e φ.size 0 0,[(d,some ⟨e,el,[],false,true,false⟩)]⟩|none=>none
   | _=>none
  | none=>none
 | none=>none
theorem Gd {d el b c:Nat} {z:List Value} {q:Bool} {φ:Ty} (hφ:T el=some φ):aao e (some d) T (some ⟨.slice el,b,c,z,q⟩)=some ⟨.buf d e φ.size 0 0,[(d,some ⟨e,el,[],false,true,false⟩)]⟩:=by simp only[aao,hφ]
theorem Sp:bG T ty e dst h (.sl true true 0 [])=aao e dst T (T ty):=by
 unfold bG aao
 cases dst<;>cases T ty<;>rfl
end
def okD (x:Option D):Option bu:=match x with|some d=>some ⟨d,[]⟩|none=>none
theorem Oq (d:D):okD (some d)=some ⟨d,[]⟩:=aiu
def wL (x:Option Ty) (f:Ty->Option bu):Option bu:=match x with|some τ=>f τ|none=>none
theorem OE (τ:Ty) (f:Ty->Option bu):wL (some τ) f=f τ:=aiu
def ab9 (x:Option (List D×List Nat)) (h:Nat->Option Row) (ty d e:Nat):Option bu :=
 match x with
 | some (cs,fr)=>if fr.contains d=false then some ⟨.ptr d e 0,gP h fr++[(d,some ⟨e,ty,cs,false,false,false⟩)]⟩ else none
 | none=>none
theorem Gi (cs:List D) (fr:List Nat) (h:Nat->Option Row) (ty d e:Nat):ab9 (some (cs,fr)) h ty d e=if fr.contains d=false then some ⟨.ptr d e 0,gP h fr++[(d,some ⟨e,ty,cs,false,false,false⟩)]⟩ else none:=aiu
def aaS (d e:Nat):Option Nat->D
 | some y =>.pm d e y
 | none =>.ptr d e 0
theorem Ig {d e y:Nat} : aaS d e (some y)=.pm d e y:=aiu
theorem Ie {d e:Nat} : aaS d e none=.ptr d e 0:=aiu
def B0 (x:Option Ty) (ty d e:Nat) (y:Option Nat):Option bu :=
 match x with
 | some τ=>if (τ.zero.map lh).all aS then some ⟨aaS d e y,[(d,some ⟨e,ty,τ.zero.map lh,false,false,false⟩)]⟩ else none
 | none=>none
theorem zJ (τ:Ty) (ty d e:Nat) (y:Option Nat):B0 (some τ) ty d e y=if (τ.zero.map lh).all aS then some ⟨aaS d e y,[(d,some ⟨e,ty,τ.zero.map lh,false,false,false⟩)]⟩ else none:=aiu
def VQ (T:Nat->Option Ty) (x:Option Ty) (ty e d:Nat):Option bu:=match x with|some τ=>lx T ty τ e d|none=>none
theorem Yq {T:Nat->Option Ty} {τ φ:Ty} {b:Bool} {ty e d:Nat} (hm:DK T τ=some (b,φ)) (hty:ty<900000):VQ T (some τ) ty e d=some ⟨.mp d e,[(d,some ⟨e,ty,[.mpc [] []],false,true,true⟩)]⟩:=by simp only[VQ,lx,hm];rw[if_neg (by omega)]
def Xe (x y:Option Ty) (d:D):Option bu :=
 match x,y,d with
 | some τ,some _,.int _ n=>(match τ.ds with | .int k=>some ⟨.int k (k.wrap n),[]⟩|_=>none)
 | _,_,_=>none
theorem GG (k:IntKind) (b c:Nat) (z:List Value) (q:Bool) (σ:Ty) (k':IntKind) (n:Int):Xe (some ⟨.int k,b,c,z,q⟩) (some σ) (.int k' n)=some ⟨.int k (k.wrap n),[]⟩:=aiu
def aaB (d:D) (i:Nat):Option bu:=match d with | .tup xs=>(match xs[i]? with|some d=>some ⟨d,[]⟩|none=>none)|_=>none
theorem Mr (xs:List D) (i:Nat):aaB (.tup xs) i=okD xs[i]?:=by simp only[aaB,okD]
section
variable {T:Nat->Option Ty} {Γ:Env} {N F e:Nat} {ws:List W} {Q:Kt} {t:Nat->D} {h:Nat->Option Row}
theorem b7 {x:Ex} : cA T Γ N F [] Q x t h e=Q x t h e:=aiu
theorem IE:cA T Γ N F (.code .skip::ws) Q .normal t h e=cA T Γ N F ws Q .normal t h e:=aiu
theorem OX {a b:Code} : cA T Γ N F (.code (.seq a b)::ws) Q .normal t h e=cA T Γ N F (.code a :: .code b::ws) Q .normal t h e:=aiu
theorem OW:cA T Γ N F (.code .ret::ws) Q .normal t h e=cA T Γ N F ws Q .ret t h e:=aiu
theorem IC {id:Nat} : cA T Γ N F (.code (.exit id)::ws) Q .normal t h e=cA T Γ N F ws Q (.exit id) t h e:=aiu
theorem EK {id:Nat} {b:Code} : cA T Γ N F (.code (.block id b)::ws) Q .normal t h e=cA T Γ N F (.code b :: .blk id::ws) Q .normal t h e:=aiu
theorem ID {b:Code} : cA T Γ N F (.code (.loop b)::ws) Q .normal t h e=TR T Γ N F b ws Q t h e:=aiu
theorem aU {c:Code} : cA T Γ N F (.code c::ws) Q .ret t h e=cA T Γ N F ws Q .ret t h e:=aiu
theorem tQ {c:Code} {n:Nat} : cA T Γ N F (.code c::ws) Q (.exit n) t h e=cA T Γ N F ws Q (.exit n) t h e:=aiu
theorem sh {id:Nat} : cA T Γ N F (.blk id::ws) Q .normal t h e=cA T Γ N F ws Q .normal t h e:=aiu
theorem bd {id:Nat} : cA T Γ N F (.blk id::ws) Q .ret t h e=cA T Γ N F ws Q .ret t h e:=aiu
theorem wa {id n:Nat} : cA T Γ N F (.blk id::ws) Q (.exit n) t h e=if n=id then cA T Γ N F ws Q .normal t h e else cA T Γ N F ws Q (.exit n) t h e:=aiu
theorem AY {i:Nat} {ops:List Oper} : cA T Γ N F (.code (.region i ops.toArray false)::ws) Q .normal t h e=jy T Γ N F ops ops ws Q t h e:=aiu
theorem EO {i:Nat} {ops:List Oper} : cA T Γ N F (.code (.region i ops.toArray true)::ws) Q .normal t h e=ki T Γ N F ops ops ws Q t h e []:=aiu
theorem IB {g:Nat} {x y:Code} : cA T Γ N F (.code (.cond (.tmp g) x y)::ws) Q .normal t h e=KF T Γ N F (t g) g x y ws Q t h e:=aiu
theorem EM {x y:Code} : cA T Γ N F (.code (.cond (.const (.bool true)) x y)::ws) Q .normal t h e=cA T Γ N F (.code x::ws) Q .normal t h e:=aiu
theorem EL {x y:Code} : cA T Γ N F (.code (.cond (.const (.bool false)) x y)::ws) Q .normal t h e=cA T Γ N F (.code y::ws) Q .normal t h e:=aiu
theorem I6 {g:Nat} {x y:Code} (hg:t g=.bool true):KF T Γ N F (.bool true) g x y ws Q t h e=cA T Γ N F (.code x::ws) Q .normal t h e:=yJ hg
theorem EZ {g:Nat} {x y:Code} (hg:t g=.bool false):KF T Γ N F (.bool false) g x y ws Q t h e=cA T Γ N F (.code y::ws) Q .normal t h e:=vA hg
theorem V9 {b:Bool} {g:Nat} {x y:Code} : KF T Γ N F (.bool b) g x y ws Q t h e=br b (cA T Γ N F (.code x::ws) Q .normal (bB t g (.bool true)) h e) (cA T Γ N F (.code y::ws) Q .normal (bB t g (.bool false)) h e):=by
 unfold KF;rw[Z8];cases b<;>simp[br]
variable {ops l:List Oper} {dst:Option Nat} {op:Op} {ty:Nat} {pos:String} {af:Array Edge} {gd:Option (Nat×Bool)} {fs:List ju}
theorem OU:jy T Γ N F ops [] ws Q t h e=cA T Γ N F ws Q .normal t h (e+1):=aiu
theorem Iz (hf:fits N dst=true):jy T Γ N F ops (⟨dst,op,ty,pos,af,none⟩::l) ws Q t h e=ny T Γ N F ⟨dst,op,ty,pos,af,none⟩ ops l ws Q t h e:=by
 simp only[jy,EJ,wpG,hf,true_and,ny]
theorem EG {j:Nat} {want:Bool} (hf:fits N dst=true) (hj:xM ops j=true):jy T Γ N F ops (⟨dst,op,ty,pos,af,some (j,want)⟩::l) ws Q t h e=vG T Γ N F (t (s6 ops j)) (s6 ops j) want ⟨dst,op,ty,pos,af,none⟩ ops l ws Q t h e:=by
 simp only[jy,EJ,wpG,hf,true_and,CE ops j hj,rB,vG]
 cases want<;>rfl
theorem Pt {g:Nat} {want:Bool} {o:Oper} : vG T Γ N F .skp g want o ops l ws Q t h e=jy T Γ N F ops l ws Q (dV t o.dst .skp) h e:=aiu
theorem I7 {g:Nat} {o:Oper} (hg:t g=.bool true):vG T Γ N F (.bool true) g true o ops l ws Q t h e=ny T Γ N F o ops l ws Q t h e:=(yM hg).trans (if_pos rfl)
theorem E1 {g:Nat} {o:Oper} (hg:t g=.bool false):vG T Γ N F (.bool false) g true o ops l ws Q t h e=jy T Γ N F ops l ws Q (dV t o.dst .skp) h e:=(vB hg).trans (if_pos rfl)
theorem E2 {g:Nat} {o:Oper} (hg:t g=.bool true):vG T Γ N F (.bool true) g false o ops l ws Q t h e=jy T Γ N F ops l ws Q (dV t o.dst .skp) h e:=(yM hg).trans (if_neg (by decide))
theorem A8 {g:Nat} {o:Oper} (hg:t g=.bool false):vG T Γ N F (.bool false) g false o ops l ws Q t h e=ny T Γ N F o ops l ws Q t h e:=(vB hg).trans (if_neg (by decide))
theorem Wa {b:Bool} {g:Nat} {o:Oper} : vG T Γ N F (.bool b) g true o ops l ws Q t h e=br b (ny T Γ N F o ops l ws Q (bB t g (.bool true)) h e) (jy T Γ N F ops l ws Q (dV (bB t g (.bool false)) o.dst .skp) h e):=by
 unfold vG;rw[yL];cases b<;>simp[br]
theorem RL {b:Bool} {g:Nat} {o:Oper} : vG T Γ N F (.bool b) g false o ops l ws Q t h e=br b (jy T Γ N F ops l ws Q (dV (bB t g (.bool true)) o.dst .skp) h e) (ny T Γ N F o ops l ws Q (bB t g (.bool false)) h e):=by
 unfold vG;rw[yL];cases b<;>simp[br]
theorem OV:ki T Γ N F ops [] ws Q t h e fs=(CI ops.toArray fs=true∧cA T Γ N F ws Q .normal t h (e+1)):=aiu
theorem IA (hf:fits N dst=true):ki T Γ N F ops (⟨dst,op,ty,pos,af,none⟩::l) ws Q t h e fs=nA T Γ N F ⟨dst,op,ty,pos,af,none⟩ ops l ws Q t h e fs:=by
 simp only[ki,runK,wpG,hf,true_and,nA]
theorem EI {j:Nat} {want:Bool} (hf:fits N dst=true) (hj:xM ops j=true):ki T Γ N F ops (⟨dst,op,ty,pos,af,some (j,want)⟩::l) ws Q t h e fs=vH T Γ N F (t (s6 ops j)) (s6 ops j) want ⟨dst,op,ty,pos,af,none⟩ ops l ws Q t h e fs:=by
 simp only[ki,runK,wpG,hf,true_and,CE ops j hj,rB,vH]
 cases want<;>rfl
theorem Pu {g:Nat} {want:Bool} {o:Oper} : vH T Γ N F .skp g want o ops l ws Q t h e fs=ki T Γ N F ops l ws Q (dV t o.dst .skp) h e (fs++[⟨[],true⟩]):=aiu
theorem I8 {g:Nat} {o:Oper} (hg:t g=.bool true):vH T Γ N F (.bool true) g true o ops l ws Q t h e fs=nA T Γ N F o ops l ws Q t h e fs:=(yM hg).trans (if_pos rfl)
theorem E4 {g:Nat} {o:Oper} (hg:t g=.bool false):vH T Γ N F (.bool false) g true o ops l ws Q t h e fs=ki T Γ N F ops l ws Q (dV t o.dst .skp) h e (fs++[⟨[],true⟩]):=(vB hg).trans (if_pos rfl)
theorem E5 {g:Nat} {o:Oper} (hg:t g=.bool true):vH T Γ N F (.bool true) g false o ops l ws Q t h e fs=ki T Γ N F ops l ws Q (dV t o.dst .skp) h e (fs++[⟨[],true⟩]):=(yM hg).trans (if_neg (by decide))
theorem A9 {g:Nat} {o:Oper} (hg:t g=.bool false):vH T Γ N F (.bool false) g false o ops l ws Q t h e fs=nA T Γ N F o ops l ws Q t h e fs:=(vB hg).trans (if_neg (by decide))
theorem Wb {b:Bool} {g:Nat} {o:Oper} : vH T Γ N F (.bool b) g true o ops l ws Q t h e fs=br b (nA T Γ N F o ops l ws Q (bB t g (.bool true)) h e fs) (ki T Γ N F ops l ws Q (dV (bB t g (.bool false)) o.dst .skp) h e (fs++[⟨[],true⟩])):=by
 unfold vH;rw[yL];cases b<;>simp[br]
theorem RM {b:Bool} {g:Nat} {o:Oper} : vH T Γ N F (.bool b) g false o ops l ws Q t h e fs=br b (ki T Γ N F ops l ws Q (dV (bB t g (.bool true)) o.dst .skp) h e (fs++[⟨[],true⟩])) (nA T Γ N F o ops l ws Q (bB t g (.bool false)) h e fs):=by
 unfold vH;rw[yL];cases b<;>simp[br]
theorem Pc {d:D} {hw:List (Nat×Option Row)} : yC T Γ N F (some ⟨d,hw⟩) dst ops l ws Q t h e=jy T Γ N F ops l ws Q (dV t dst d) (aH h (jq h hw)) e:=aiu
theorem Pm {d:D} {hw:List (Nat×Option Row)} {ft:List Nat} : yD T Γ N F (some ⟨d,hw⟩) dst ft ops l ws Q t h e fs=ki T Γ N F ops l ws Q (dV t dst d) (aH h (jq h hw)) e (fs++[⟨ft,(jq h hw).isEmpty⟩]):=aiu
theorem TZ {c:Prop} [Decidable c] {E:bu} : yC T Γ N F (if c then some E else none) dst ops l ws Q t h e=(c∧yC T Γ N F (some E) dst ops l ws Q t h e):=by
 by_cases hc:c<;>simp[hc,yC,ER,or2,ot]
theorem T4 {c:Prop} [Decidable c] {E:bu} {ft:List Nat} : yD T Γ N F (if c then some E else none) dst ft ops l ws Q t h e fs=(c∧yD T Γ N F (some E) dst ft ops l ws Q t h e fs):=by
 by_cases hc:c<;>simp[hc,yD,ES,or2,ot]
theorem IN {E:bu} {y:Option bu} : ER T Γ N F (some E) y dst ops l ws Q t h e=yC T Γ N F (some E) dst ops l ws Q t h e:=aiu
theorem IZ {E:bu} {y:Option bu} {ft:List Nat} : ES T Γ N F (some E) y dst ft ops l ws Q t h e fs=yD T Γ N F (some E) dst ft ops l ws Q t h e fs:=aiu
theorem IM {y:Option bu} : ER T Γ N F none y dst ops l ws Q t h e=FW T Γ N F y dst ops l ws Q t h e:=aiu
theorem IY {y:Option bu} {ft:List Nat} : ES T Γ N F none y dst ft ops l ws Q t h e fs=FX T Γ N F y dst ft ops l ws Q t h e fs:=aiu
theorem TY {x:Option bu} : ER T Γ N F x none dst ops l ws Q t h e=yC T Γ N F x dst ops l ws Q t h e:=aiu
theorem T3 {x:Option bu} {ft:List Nat} : ES T Γ N F x none dst ft ops l ws Q t h e fs=yD T Γ N F x dst ft ops l ws Q t h e fs:=aiu
theorem IP {d:D} {hw:List (Nat×Option Row)} : FW T Γ N F (some ⟨d,hw⟩) dst ops l ws Q t h e=jy T Γ N F ops l ws Q (dV t dst d) (aH h hw) e:=aiu
theorem I0 {d:D} {hw:List (Nat×Option Row)} {ft:List Nat} : FX T Γ N F (some ⟨d,hw⟩) dst ft ops l ws Q t h e fs=ki T Γ N F ops l ws Q (dV t dst d) (aH h hw) e (fs++[⟨ft,hw.isEmpty⟩]):=aiu
theorem Pb {c:Prop} [Decidable c] {E:bu} : FW T Γ N F (if c then some E else none) dst ops l ws Q t h e=(c∧FW T Γ N F (some E) dst ops l ws Q t h e):=by
 by_cases hc:c<;>simp[hc,FW,ot]
theorem Pk {c:Prop} [Decidable c] {E:bu} {ft:List Nat} : FX T Γ N F (if c then some E else none) dst ft ops l ws Q t h e fs=(c∧FX T Γ N F (some E) dst ft ops l ws Q t h e fs):=by
 by_cases hc:c<;>simp[hc,FX,ot]
theorem El {g:Nat} {a b:Operand} (hg:t g=.bool true):YK T Γ N F (.bool true) g a b dst ops l ws Q t h e=jy T Γ N F ops l ws Q (dV t dst (ev t a)) h e:=yJ hg
theorem AK {g:Nat} {a b:Operand} (hg:t g=.bool false):YK T Γ N F (.bool false) g a b dst ops l ws Q t h e=jy T Γ N F ops l ws Q (dV t dst (ev t b)) h e:=vA hg
theorem Em {g:Nat} {a b:Operand} (hg:t g=.bool true):YL T Γ N F (.bool true) g a b dst ops l ws Q t h e fs=ki T Γ N F ops l ws Q (dV t dst (ev t a)) h e (fs++[⟨[],true⟩]):=yJ hg
theorem AL {g:Nat} {a b:Operand} (hg:t g=.bool false):YL T Γ N F (.bool false) g a b dst ops l ws Q t h e fs=ki T Γ N F ops l ws Q (dV t dst (ev t b)) h e (fs++[⟨[],true⟩]):=vA hg
theorem LY {c:Nat} {a b:Operand} : ny T Γ N F ⟨dst,.pick (.tmp c) a b,ty,pos,af,gd⟩ ops l ws Q t h e=YK T Γ N F (t c) c a b dst ops l ws Q t h e:=aiu
theorem L4 {c:Nat} {a b:Operand} : nA T Γ N F ⟨dst,.pick (.tmp c) a b,ty,pos,af,gd⟩ ops l ws Q t h e fs=YL T Γ N F (t c) c a b dst ops l ws Q t h e fs:=aiu
theorem xk {x y:Option bu} (hp:∀c a b,op ≠ .pick c a b) (hm:fO T Γ e ⟨dst,op,ty,pos,af,gd⟩ (ev t)=none) (hcf:ln Γ e h dst (gp (ev t) op)=none) (hx:ll T Γ e ⟨dst,op,ty,pos,af,gd⟩ (ev t) (EH h)=x) (hy:te T Γ e ⟨dst,op,ty,pos,af,gd⟩ (ev t) h=y):ny T Γ N F ⟨dst,op,ty,pos,af,gd⟩ ops l ws Q t h e=ER T Γ N F x y dst ops l ws Q t h e:=by
 subst hx
 subst hy
 unfold ny ER PC mX
 rw[hm]
 simp only
 rw[hcf]
 cases op<;>first|rfl|exact absurd rfl (hp _ _ _)
theorem xn {x y:Option bu} (hp:∀c a b,op ≠ .pick c a b) (hm:fO T Γ e ⟨dst,op,ty,pos,af,gd⟩ (ev t)=none) (hcf:ln Γ e h dst (gp (ev t) op)=none) (hx:ll T Γ e ⟨dst,op,ty,pos,af,gd⟩ (ev t) (EH h)=x) (hy:te T Γ e ⟨dst,op,ty,pos,af,gd⟩ (ev t) h=y):nA T Γ N F ⟨dst,op,ty,pos,af,gd⟩ ops l ws Q t h e fs=ES T Γ N F x y dst (bl ⟨dst,op,ty,pos,af,gd⟩ (ev t)) ops l ws Q t h e fs:=by
 subst hx
 subst hy
 unfold nA ES PC mX
 rw[hm]
 simp only
 rw[hcf]
 cases op<;>first|rfl|exact absurd rfl (hp _ _ _)
theorem dZ {x:Option bu} (hp:∀c a b,op ≠ .pick c a b) (hx:ll T Γ e ⟨dst,op,ty,pos,af,gd⟩ (ev t) (EH h)=x) (hm:fO T Γ e ⟨dst,op,ty,pos,af,gd⟩ (ev t)=none:=by rfl) (hy:te T Γ e ⟨dst,op,ty,pos,af,gd⟩ (ev t) h=none:=by rfl) (hcf:ln Γ e h dst (gp (ev t) op)=none:=by first|rfl|(cases dst<;>rfl)):ny T Γ N F ⟨dst,op,ty,pos,af,gd⟩ ops l ws Q t h e=yC T Γ N F x dst ops l ws Q t h e:=xk hp hm hcf hx hy
theorem ec {x:Option bu} (hp:∀c a b,op ≠ .pick c a b) (hx:ll T Γ e ⟨dst,op,ty,pos,af,gd⟩ (ev t) (EH h)=x) (hm:fO T Γ e ⟨dst,op,ty,pos,af,gd⟩ (ev t)=none:=by rfl) (hy:te T Γ e ⟨dst,op,ty,pos,af,gd⟩ (ev t) h=none:=by rfl) (hcf:ln Γ e h dst (gp (ev t) op)=none:=by first|rfl|(cases dst<;>rfl)):nA T Γ N F ⟨dst,op,ty,pos,af,gd⟩ ops l ws Q t h e fs=yD T Γ N F x dst (bl ⟨dst,op,ty,pos,af,gd⟩ (ev t)) ops l ws Q t h e fs:=xn hp hm hcf hx hy
theorem LX {x:Operand} : ny T Γ N F ⟨dst,.move x,ty,pos,af,gd⟩ ops l ws Q t h e=jy T Γ N F ops l ws Q (dV t dst (ev t x)) h e:=(dZ (fun _ _ _ hh=>by cases hh) rfl).trans rfl
theorem L3 {x:Operand} : nA T Γ N F ⟨dst,.move x,ty,pos,af,gd⟩ ops l ws Q t h e fs=ki T Γ N F ops l ws Q (dV t dst (ev t x)) h e (fs++[⟨[],true⟩]):=(ec (fun _ _ _ hh=>by cases hh) rfl).trans rfl
theorem GK {o:BinOp} {tt z:Nat} {x y:Operand} : ny T Γ N F ⟨dst,.binOp o tt x y z,ty,pos,af,gd⟩ ops l ws Q t h e=yC T Γ N F (okD (y4 T tt o (ev t x) (ev t y))) dst ops l ws Q t h e:=dZ (fun _ _ _ hh=>by cases hh) (by simp only[ll];first|rfl|(cases y4 T tt o (ev t x) (ev t y)<;>rfl))
theorem GS {o:BinOp} {tt z:Nat} {x y:Operand} : nA T Γ N F ⟨dst,.binOp o tt x y z,ty,pos,af,gd⟩ ops l ws Q t h e fs=yD T Γ N F (okD (y4 T tt o (ev t x) (ev t y))) dst (bl ⟨dst,.binOp o tt x y z,ty,pos,af,gd⟩ (ev t)) ops l ws Q t h e fs:=ec (fun _ _ _ hh=>by cases hh) (by simp only[ll];first|rfl|(cases y4 T tt o (ev t x) (ev t y)<;>rfl))
theorem LZ {o:UnOp} {tt:Nat} {x:Operand} : ny T Γ N F ⟨dst,.unOp o tt x,ty,pos,af,gd⟩ ops l ws Q t h e=yC T Γ N F (okD (FZ o (ev t x))) dst ops l ws Q t h e:=dZ (fun _ _ _ hh=>by cases hh) (by simp only[ll];first|rfl|(cases FZ o (ev t x)<;>rfl))
theorem L5 {o:UnOp} {tt:Nat} {x:Operand} : nA T Γ N F ⟨dst,.unOp o tt x,ty,pos,af,gd⟩ ops l ws Q t h e fs=yD T Γ N F (okD (FZ o (ev t x))) dst (bl ⟨dst,.unOp o tt x,ty,pos,af,gd⟩ (ev t)) ops l ws Q t h e fs:=ec (fun _ _ _ hh=>by cases hh) (by simp only[ll];first|rfl|(cases FZ o (ev t x)<;>rfl))
theorem Cu {x:Operand} : ny T Γ N F ⟨dst,.assign x,ty,pos,af,gd⟩ ops l ws Q t h e=yC T Γ N F (pH T Γ.own ty e dst (EH h) (ev t x)) dst ops l ws Q t h e:=dZ (fun _ _ _ hh=>by cases hh) rfl
theorem Cx {x:Operand} : nA T Γ N F ⟨dst,.assign x,ty,pos,af,gd⟩ ops l ws Q t h e fs=yD T Γ N F (pH T Γ.own ty e dst (EH h) (ev t x)) dst (bl ⟨dst,.assign x,ty,pos,af,gd⟩ (ev t)) ops l ws Q t h e fs:=ec (fun _ _ _ hh=>by cases hh) rfl
theorem xl {f:Nat} {first caps:List Operand} : ny T Γ N F ⟨dst,.makeFunc (.func f) first.toArray caps.toArray,ty,pos,af,gd⟩ ops l ws Q t h e=yC T Γ N F (if (first.map (ev t)++caps.map (ev t)).all iE then some ⟨.clo f first.length (first.map (ev t)++caps.map (ev t)),[]⟩ else none) dst ops l ws Q t h e:=dZ (fun _ _ _ hh=>by cases hh) rfl
theorem xo {f:Nat} {first caps:List Operand} : nA T Γ N F ⟨dst,.makeFunc (.func f) first.toArray caps.toArray,ty,pos,af,gd⟩ ops l ws Q t h e fs=yD T Γ N F (if (first.map (ev t)++caps.map (ev t)).all iE then some ⟨.clo f first.length (first.map (ev t)++caps.map (ev t)),[]⟩ else none) dst (bl ⟨dst,.makeFunc (.func f) first.toArray caps.toArray,ty,pos,af,gd⟩ (ev t)) ops l ws Q t h e fs:=ec (fun _ _ _ hh=>by cases hh) rfl
theorem LV {tt:Nat} {x:Operand} : ny T Γ N F ⟨dst,.load tt x,ty,pos,af,gd⟩ ops l ws Q t h e=ER T Γ N F (wL (T tt) fun τ=>mf τ (EH h) (ev t x)) (wL (T tt) fun τ=>td τ h (ev t x)) dst ops l ws Q t h e:=xk (fun _ _ _ hh=>by cases hh) rfl (by cases dst<;>rfl) (by simp only[ll];first|rfl|(cases T tt<;>rfl)) (by simp only[te];first|rfl|(cases T tt<;>rfl))
theorem L1 {tt:Nat} {x:Operand} : nA T Γ N F ⟨dst,.load tt x,ty,pos,af,gd⟩ ops l ws Q t h e fs=ES T Γ N F (wL (T tt) fun τ=>mf τ (EH h) (ev t x)) (wL (T tt) fun τ=>td τ h (ev t x)) dst (bl ⟨dst,.load tt x,ty,pos,af,gd⟩ (ev t)) ops l ws Q t h e fs:=xn (fun _ _ _ hh=>by cases hh) rfl (by cases dst<;>rfl) (by simp only[ll];first|rfl|(cases T tt<;>rfl)) (by simp only[te];first|rfl|(cases T tt<;>rfl))
theorem GQ {tt:Nat} {x y:Operand} : ny T Γ N F ⟨dst,.store tt x y,ty,pos,af,gd⟩ ops l ws Q t h e=ER T Γ N F (wL (T tt) fun τ=>cJ τ (EH h) (ev t x) (ev t y)) (wL (T tt) fun τ=>tf τ e h (ev t x) (ev t y)) dst ops l ws Q t h e:=xk (fun _ _ _ hh=>by cases hh) rfl (by cases dst<;>rfl) (by simp only[ll];first|rfl|(cases T tt<;>rfl)) (by simp only[te];first|rfl|(cases T tt<;>rfl))
theorem GZ {tt:Nat} {x y:Operand} : nA T Γ N F ⟨dst,.store tt x y,ty,pos,af,gd⟩ ops l ws Q t h e fs=ES T Γ N F (wL (T tt) fun τ=>cJ τ (EH h) (ev t x) (ev t y)) (wL (T tt) fun τ=>tf τ e h (ev t x) (ev t y)) dst (bl ⟨dst,.store tt x y,ty,pos,af,gd⟩ (ev t)) ops l ws Q t h e fs:=xn (fun _ _ _ hh=>by cases hh) rfl (by cases dst<;>rfl) (by simp only[ll];first|rfl|(cases T tt<;>rfl)) (by simp only[te];first|rfl|(cases T tt<;>rfl))
theorem xm {x:Operand} : ny T Γ N F ⟨dst,.nilCheck x,ty,pos,af,gd⟩ ops l ws Q t h e=yC T Γ N F (iH (EH h) (ev t x)) dst ops l ws Q t h e:=dZ (fun _ _ _ hh=>by cases hh) rfl
theorem xp {x:Operand} : nA T Γ N F ⟨dst,.nilCheck x,ty,pos,af,gd⟩ ops l ws Q t h e fs=yD T Γ N F (iH (EH h) (ev t x)) dst (bl ⟨dst,.nilCheck x,ty,pos,af,gd⟩ (ev t)) ops l ws Q t h e fs:=ec (fun _ _ _ hh=>by cases hh) rfl
theorem vJ {tt i:Nat} {x:Operand} : ny T Γ N F ⟨dst,.fieldAddr tt x i,ty,pos,af,gd⟩ ops l ws Q t h e=yC T Γ N F (wL (T tt) fun τ=>dD T τ (EH h) i (ev t x)) dst ops l ws Q t h e:=dZ (fun _ _ _ hh=>by cases hh) (by simp only[ll];first|rfl|(cases T tt<;>rfl))
theorem vN {tt i:Nat} {x:Operand} : nA T Γ N F ⟨dst,.fieldAddr tt x i,ty,pos,af,gd⟩ ops l ws Q t h e fs=yD T Γ N F (wL (T tt) fun τ=>dD T τ (EH h) i (ev t x)) dst (bl ⟨dst,.fieldAddr tt x i,ty,pos,af,gd⟩ (ev t)) ops l ws Q t h e fs:=ec (fun _ _ _ hh=>by cases hh) (by simp only[ll];first|rfl|(cases T tt<;>rfl))
theorem GM {tt i:Nat} {x:Operand} : ny T Γ N F ⟨dst,.field tt x i,ty,pos,af,gd⟩ ops l ws Q t h e=yC T Γ N F (wL (T tt) fun τ=>kO T τ i (ev t x)) dst ops l ws Q t h e:=dZ (fun _ _ _ hh=>by cases hh) (by simp only[ll];first|rfl|(cases T tt<;>rfl))
theorem GV {tt i:Nat} {x:Operand} : nA T Γ N F ⟨dst,.field tt x i,ty,pos,af,gd⟩ ops l ws Q t h e fs=yD T Γ N F (wL (T tt) fun τ=>kO T τ i (ev t x)) dst (bl ⟨dst,.field tt x i,ty,pos,af,gd⟩ (ev t)) ops l ws Q t h e fs:=ec (fun _ _ _ hh=>by cases hh) (by simp only[ll];first|rfl|(cases T tt<;>rfl))
theorem vK {tt:Nat} {x i:Operand} : ny T Γ N F ⟨dst,.indexAddr tt x i,ty,pos,af,gd⟩ ops l ws Q t h e=yC T Γ N F (wL (T tt) fun τ=>bD T τ (EH h) (ev t x) (ev t i)) dst ops l ws Q t h e:=dZ (fun _ _ _ hh=>by cases hh) (by simp only[ll];first|rfl|(cases T tt<;>rfl))
theorem vO {tt:Nat} {x i:Operand} : nA T Γ N F ⟨dst,.indexAddr tt x i,ty,pos,af,gd⟩ ops l ws Q t h e fs=yD T Γ N F (wL (T tt) fun τ=>bD T τ (EH h) (ev t x) (ev t i)) dst (bl ⟨dst,.indexAddr tt x i,ty,pos,af,gd⟩ (ev t)) ops l ws Q t h e fs:=ec (fun _ _ _ hh=>by cases hh) (by simp only[ll];first|rfl|(cases T tt<;>rfl))
theorem GN {tt:Nat} {x i:Operand} : ny T Γ N F ⟨dst,.index tt x i,ty,pos,af,gd⟩ ops l ws Q t h e=yC T Γ N F (wL (T tt) fun τ=>fC T τ (ev t x) (ev t i)) dst ops l ws Q t h e:=dZ (fun _ _ _ hh=>by cases hh) (by simp only[ll];first|rfl|(cases T tt<;>rfl))
theorem GW {tt:Nat} {x i:Operand} : nA T Γ N F ⟨dst,.index tt x i,ty,pos,af,gd⟩ ops l ws Q t h e fs=yD T Γ N F (wL (T tt) fun τ=>fC T τ (ev t x) (ev t i)) dst (bl ⟨dst,.index tt x i,ty,pos,af,gd⟩ (ev t)) ops l ws Q t h e fs:=ec (fun _ _ _ hh=>by cases hh) (by simp only[ll];first|rfl|(cases T tt<;>rfl))
theorem GO {tt:Nat} {x:Operand} {lo hi mx:Option Operand} : ny T Γ N F ⟨dst,.slice tt x lo hi mx,ty,pos,af,gd⟩ ops l ws Q t h e=yC T Γ N F (wL (T tt) fun τ=>cv T τ (EH h) (ev t x) (lo.map (ev t)) (hi.map (ev t)) (mx.map (ev t))) dst ops l ws Q t h e:=dZ (fun _ _ _ hh=>by cases hh) (by simp only[ll];first|rfl|(cases T tt<;>rfl))
theorem GX {tt:Nat} {x:Operand} {lo hi mx:Option Operand} : nA T Γ N F ⟨dst,.slice tt x lo hi mx,ty,pos,af,gd⟩ ops l ws Q t h e fs=yD T Γ N F (wL (T tt) fun τ=>cv T τ (EH h) (ev t x) (lo.map (ev t)) (hi.map (ev t)) (mx.map (ev t))) dst (bl ⟨dst,.slice tt x lo hi mx,ty,pos,af,gd⟩ (ev t)) ops l ws Q t h e fs:=ec (fun _ _ _ hh=>by cases hh) (by simp only[ll];first|rfl|(cases T tt<;>rfl))
theorem GL {tt:Nat} {ps:List (Nat×Operand)} : ny T Γ N F ⟨dst,.build tt ps.toArray,ty,pos,af,gd⟩ ops l ws Q t h e=yC T Γ N F (wL (T tt) fun τ=>nS Γ.own T τ (EH h) dst (ps.map fun p=>(p.1,ev t p.2))) dst ops l ws Q t h e:=dZ (fun _ _ _ hh=>by cases hh) (by simp only[ll];first|rfl|(cases T tt<;>rfl))
theorem GU {tt:Nat} {ps:List (Nat×Operand)} : nA T Γ N F ⟨dst,.build tt ps.toArray,ty,pos,af,gd⟩ ops l ws Q t h e fs=yD T Γ N F (wL (T tt) fun τ=>nS Γ.own T τ (EH h) dst (ps.map fun p=>(p.1,ev t p.2))) dst (bl ⟨dst,.build tt ps.toArray,ty,pos,af,gd⟩ (ev t)) ops l ws Q t h e fs:=ec (fun _ _ _ hh=>by cases hh) (by simp only[ll];first|rfl|(cases T tt<;>rfl))
theorem s3 {tt len d:Nat} {ps:List (Nat×Operand)} : ny T Γ N F ⟨some d,.buildSlice tt len ps.toArray,ty,pos,af,gd⟩ ops l ws Q t h e=yC T Γ N F (wL (T tt) fun τ=>dC T τ (EH h) e d len (ps.map fun p=>(p.1,ev t p.2))) (some d) ops l ws Q t h e:=dZ (fun _ _ _ hh=>by cases hh) (by simp only[ll];first|rfl|(cases T tt<;>rfl))
theorem s4 {tt len d:Nat} {ps:List (Nat×Operand)} : nA T Γ N F ⟨some d,.buildSlice tt len ps.toArray,ty,pos,af,gd⟩ ops l ws Q t h e fs=yD T Γ N F (wL (T tt) fun τ=>dC T τ (EH h) e d len (ps.map fun p=>(p.1,ev t p.2))) (some d) (bl ⟨some d,.buildSlice tt len ps.toArray,ty,pos,af,gd⟩ (ev t)) ops l ws Q t h e fs:=ec (fun _ _ _ hh=>by cases hh) (by simp only[ll];first|rfl|(cases T tt<;>rfl))
def DN (T:Nat->Option Ty) (e d tt:Nat) (x y:D):Option (Nat×Nat×Nat)->Option bu
 | some p=>(match T tt with|some τ=>mO T τ e d p.1 p.2.1 p.2.2 x y|none=>none)
 | none=>none
theorem HP {d tt:Nat} {x y:D} : DN T e d tt x y none=none:=aiu
theorem HQ {d tt:Nat} {x y:D} {p:Nat×Nat×Nat} {τ:Ty} (hτ:T tt=some τ):DN T e d tt x y (some p)=mO T τ e d p.1 p.2.1 p.2.2 x y:=by simp only[DN,hτ]
def stM (y x:Option bu) (dst:Option Nat) (ops l:List Oper) (ws:List W) (Q:Kt) (t:Nat->D) (h:Nat->Option Row) (e:Nat):Prop :=
 match y with
 | some E=>FW T Γ N F (some E) dst ops l ws Q t h e
 | none=>yC T Γ N F x dst ops l ws Q t h e
def Y5 (y x:Option bu) (dst:Option Nat) (ft:List Nat) (ops l:List Oper) (ws:List W) (Q:Kt) (t:Nat->D) (h:Nat->Option Row) (e:Nat) (fs:List ju):Prop :=
 match y with
 | some E=>FX T Γ N F (some E) dst ft ops l ws Q t h e fs
 | none=>yD T Γ N F x dst ft ops l ws Q t h e fs
theorem vL {tt d:Nat} {x y:Operand} : ny T Γ N F ⟨some d,.makeSlice tt x y,ty,pos,af,gd⟩ ops l ws Q t h e=stM (T:=T) (Γ:=Γ) (N:=N) (F:=F) (DN T e d tt (ev t x) (ev t y) (Γ.nst d)) (wL (T tt) fun τ=>oQ T τ e d (ev t x) (ev t y)) (some d) ops l ws Q t h e:=by
 have hm:fO T Γ e ⟨some d,.makeSlice tt x y,ty,pos,af,gd⟩ (ev t)=DN T e d tt (ev t x) (ev t y) (Γ.nst d):=by
  unfold fO DN
  simp only
  cases Γ.nst d<;>rfl
 cases hc:DN T e d tt (ev t x) (ev t y) (Γ.nst d) with
 | none=>exact dZ (fun _ _ _ hh=>by cases hh) (by simp only[ll];first|rfl|(cases T tt<;>rfl)) (hm.trans hc)
 | some E=>unfold ny PC mX;rw[hm,hc];rfl
theorem vP {tt d:Nat} {x y:Operand} : nA T Γ N F ⟨some d,.makeSlice tt x y,ty,pos,af,gd⟩ ops l ws Q t h e fs=Y5 (T:=T) (Γ:=Γ) (N:=N) (F:=F) (DN T e d tt (ev t x) (ev t y) (Γ.nst d)) (wL (T tt) fun τ=>oQ T τ e d (ev t x) (ev t y)) (some d) (bl ⟨some d,.makeSlice tt x y,ty,pos,af,gd⟩ (ev t)) ops l ws Q t h e fs:=by
 have hm:fO T Γ e ⟨some d,.makeSlice tt x y,ty,pos,af,gd⟩ (ev t)=DN T e d tt (ev t x) (ev t y) (Γ.nst d):=by
  unfold fO DN
  simp only
  cases Γ.nst d<;>rfl
 cases hc:DN T e d tt (ev t x) (ev t y) (Γ.nst d) with
 | none=>exact ec (fun _ _ _ hh=>by cases hh) (by simp only[ll];first|rfl|(cases T tt<;>rfl)) (hm.trans hc)
 | some E=>unfold nA PC mX;rw[hm,hc];rfl
theorem Pe {x:Option bu} : stM (T:=T) (Γ:=Γ) (N:=N) (F:=F) none x dst ops l ws Q t h e=yC T Γ N F x dst ops l ws Q t h e:=aiu
theorem IQ {x:Option bu} {ft:List Nat} : Y5 (T:=T) (Γ:=Γ) (N:=N) (F:=F) none x dst ft ops l ws Q t h e fs=yD T Γ N F x dst ft ops l ws Q t h e fs:=aiu
theorem Pf {x:Option bu} {E:bu} : stM (T:=T) (Γ:=Γ) (N:=N) (F:=F) (some E) x dst ops l ws Q t h e=FW T Γ N F (some E) dst ops l ws Q t h e:=aiu
theorem IS {x:Option bu} {ft:List Nat} {E:bu} : Y5 (T:=T) (Γ:=Γ) (N:=N) (F:=F) (some E) x dst ft ops l ws Q t h e fs=FX T Γ N F (some E) dst ft ops l ws Q t h e fs:=aiu
theorem T0 {x:Option bu} {c:Prop} [Decidable c] {E:bu} (hc:c):stM (T:=T) (Γ:=Γ) (N:=N) (F:=F) (if c then some E else none) x dst ops l ws Q t h e=FW T Γ N F (some E) dst ops l ws Q t h e:=by rw[if_pos hc];rfl
theorem Pd {x:Option bu} {ft:List Nat} {c:Prop} [Decidable c] {E:bu} (hc:c):Y5 (T:=T) (Γ:=Γ) (N:=N) (F:=F) (if c then some E else none) x dst ft ops l ws Q t h e fs=FX T Γ N F (some E) dst ft ops l ws Q t h e fs:=by rw[if_pos hc];rfl
def WG (T:Nat->Option Ty) (e d tt:Nat):Option (Nat×Nat×Nat)->Option bu
 | some p=>(match T tt with|some τ=>mkA τ tt e d p.1 p.2.1 p.2.2|none=>none)
 | none=>none
theorem KX {d tt:Nat} : WG T e d tt none=none:=aiu
theorem KY {d tt:Nat} {p:Nat×Nat×Nat} {τ:Ty} (hτ:T tt=some τ):WG T e d tt (some p)=mkA τ tt e d p.1 p.2.1 p.2.2:=by simp only[WG,hτ]
theorem GJ {tt d:Nat} : ny T Γ N F ⟨some d,.alloc tt,ty,pos,af,gd⟩ ops l ws Q t h e=stM (T:=T) (Γ:=Γ) (N:=N) (F:=F) (WG T e d tt (Γ.nst d)) (B0 (T tt) tt d e (Γ.hint d)) (some d) ops l ws Q t h e:=by
 have hm:fO T Γ e ⟨some d,.alloc tt,ty,pos,af,gd⟩ (ev t)=WG T e d tt (Γ.nst d):=by
  unfold fO WG
  simp only
  cases Γ.nst d<;>rfl
 cases hc:WG T e d tt (Γ.nst d) with
 | none=>exact dZ (fun _ _ _ hh=>by cases hh) (by simp only[ll];cases T tt with|none=>rfl|some τ=>(dsimp only[B0];cases Γ.hint d<;>rfl)) (hm.trans hc)
 | some E=>unfold ny PC mX;rw[hm,hc];rfl
theorem GR {tt d:Nat} : nA T Γ N F ⟨some d,.alloc tt,ty,pos,af,gd⟩ ops l ws Q t h e fs=Y5 (T:=T) (Γ:=Γ) (N:=N) (F:=F) (WG T e d tt (Γ.nst d)) (B0 (T tt) tt d e (Γ.hint d)) (some d) (bl ⟨some d,.alloc tt,ty,pos,af,gd⟩ (ev t)) ops l ws Q t h e fs:=by
 have hm:fO T Γ e ⟨some d,.alloc tt,ty,pos,af,gd⟩ (ev t)=WG T e d tt (Γ.nst d):=by
  unfold fO WG
  simp only
  cases Γ.nst d<;>rfl
 cases hc:WG T e d tt (Γ.nst d) with
 | none=>exact ec (fun _ _ _ hh=>by cases hh) (by simp only[ll];cases T tt with|none=>rfl|some τ=>(dsimp only[B0];cases Γ.hint d<;>rfl)) (hm.trans hc)
 | some E=>unfold nA PC mX;rw[hm,hc];rfl
theorem zX {tt d:Nat} : ny T Γ N F ⟨some d,.makeMap tt none,ty,pos,af,gd⟩ ops l ws Q t h e=yC T Γ N F (VQ T (T tt) tt e d) (some d) ops l ws Q t h e:=dZ (fun _ _ _ hh=>by cases hh) (by simp only[ll];first|rfl|(cases T tt<;>rfl))
theorem z7 {tt d:Nat} : nA T Γ N F ⟨some d,.makeMap tt none,ty,pos,af,gd⟩ ops l ws Q t h e fs=yD T Γ N F (VQ T (T tt) tt e d) (some d) (bl ⟨some d,.makeMap tt none,ty,pos,af,gd⟩ (ev t)) ops l ws Q t h e fs:=ec (fun _ _ _ hh=>by cases hh) (by simp only[ll];first|rfl|(cases T tt<;>rfl))
theorem Cw {tt:Nat} {m i:Operand} {ok:Bool} : ny T Γ N F ⟨dst,.lookup tt m i ok,ty,pos,af,gd⟩ ops l ws Q t h e=yC T Γ N F (wL (T tt) fun τ=>fv T τ (EH h) (ev t m) (ev t i) ok) dst ops l ws Q t h e:=dZ (fun _ _ _ hh=>by cases hh) (by simp only[ll];first|rfl|(cases T tt<;>rfl))
theorem Cz {tt:Nat} {m i:Operand} {ok:Bool} : nA T Γ N F ⟨dst,.lookup tt m i ok,ty,pos,af,gd⟩ ops l ws Q t h e fs=yD T Γ N F (wL (T tt) fun τ=>fv T τ (EH h) (ev t m) (ev t i) ok) dst (bl ⟨dst,.lookup tt m i ok,ty,pos,af,gd⟩ (ev t)) ops l ws Q t h e fs:=ec (fun _ _ _ hh=>by cases hh) (by simp only[ll];first|rfl|(cases T tt<;>rfl))
theorem vM {tt:Nat} {m i x:Operand} : ny T Γ N F ⟨dst,.mapUpdate tt m i x,ty,pos,af,gd⟩ ops l ws Q t h e=yC T Γ N F (wL (T tt) fun τ=>cj T τ (EH h) (ev t m) (ev t i) (ev t x)) dst ops l ws Q t h e:=dZ (fun _ _ _ hh=>by cases hh) (by simp only[ll];first|rfl|(cases T tt<;>rfl))
theorem vQ {tt:Nat} {m i x:Operand} : nA T Γ N F ⟨dst,.mapUpdate tt m i x,ty,pos,af,gd⟩ ops l ws Q t h e fs=yD T Γ N F (wL (T tt) fun τ=>cj T τ (EH h) (ev t m) (ev t i) (ev t x)) dst (bl ⟨dst,.mapUpdate tt m i x,ty,pos,af,gd⟩ (ev t)) ops l ws Q t h e fs:=ec (fun _ _ _ hh=>by cases hh) (by simp only[ll];first|rfl|(cases T tt<;>rfl))
theorem Cv {tt:Nat} {m i x:Operand} : ny T Γ N F ⟨dst,.insert tt m i x,ty,pos,af,gd⟩ ops l ws Q t h e=yC T Γ N F (wL (T tt) fun τ=>cj T τ (EH h) (ev t m) (ev t i) (ev t x)) dst ops l ws Q t h e:=dZ (fun _ _ _ hh=>by cases hh) (by simp only[ll];first|rfl|(cases T tt<;>rfl))
theorem Cy {tt:Nat} {m i x:Operand} : nA T Γ N F ⟨dst,.insert tt m i x,ty,pos,af,gd⟩ ops l ws Q t h e fs=yD T Γ N F (wL (T tt) fun τ=>cj T τ (EH h) (ev t m) (ev t i) (ev t x)) dst (bl ⟨dst,.insert tt m i x,ty,pos,af,gd⟩ (ev t)) ops l ws Q t h e fs:=ec (fun _ _ _ hh=>by cases hh) (by simp only[ll];first|rfl|(cases T tt<;>rfl))
theorem SP {tt d:Nat} {x:Operand} : ny T Γ N F ⟨some d,.box tt x,ty,pos,af,gd⟩ ops l ws Q t h e=yC T Γ N F (ab9 (dY (EH h) (ev t x)) (EH h) tt d e) (some d) ops l ws Q t h e:=dZ (fun _ _ _ hh=>by cases hh) (by simp only[ll];first|rfl|(cases dY (EH h) (ev t x)<;>rfl))
theorem SQ {tt d:Nat} {x:Operand} : nA T Γ N F ⟨some d,.box tt x,ty,pos,af,gd⟩ ops l ws Q t h e fs=yD T Γ N F (ab9 (dY (EH h) (ev t x)) (EH h) tt d e) (some d) (bl ⟨some d,.box tt x,ty,pos,af,gd⟩ (ev t)) ops l ws Q t h e fs:=ec (fun _ _ _ hh=>by cases hh) (by simp only[ll];first|rfl|(cases dY (EH h) (ev t x)<;>rfl))
theorem zV {a b:Nat} {x:Operand} : ny T Γ N F ⟨dst,.convert a b x,ty,pos,af,gd⟩ ops l ws Q t h e=yC T Γ N F (Xe (T b) (T a) (ev t x)) dst ops l ws Q t h e:=dZ (fun _ _ _ hh=>by cases hh) rfl
theorem zZ {a b:Nat} {x:Operand} : nA T Γ N F ⟨dst,.convert a b x,ty,pos,af,gd⟩ ops l ws Q t h e fs=yD T Γ N F (Xe (T b) (T a) (ev t x)) dst (bl ⟨dst,.convert a b x,ty,pos,af,gd⟩ (ev t)) ops l ws Q t h e fs:=ec (fun _ _ _ hh=>by cases hh) rfl
theorem zW {x:Nat} {i:Nat} : ny T Γ N F ⟨dst,.extract (.tmp x) i,ty,pos,af,gd⟩ ops l ws Q t h e=yC T Γ N F (aaB (t x) i) dst ops l ws Q t h e:=dZ (fun _ _ _ hh=>by cases hh) rfl
theorem z6 {x:Nat} {i:Nat} : nA T Γ N F ⟨dst,.extract (.tmp x) i,ty,pos,af,gd⟩ ops l ws Q t h e fs=yD T Γ N F (aaB (t x) i) dst (bl ⟨dst,.extract (.tmp x) i,ty,pos,af,gd⟩ (ev t)) ops l ws Q t h e fs:=ec (fun _ _ _ hh=>by cases hh) rfl
def cnL (Γ:Env) (e:Nat) (h:Nat->Option Row) (g:Nat) (args:List D):Option (Nat×(Nat->Nat->Nat->Nat->List D->List D->Option (D×List D)))->Option bu
 | some _=>pP Γ e h g args
 | none=>none
theorem LN {g:Nat} {args:List D} : cnL Γ e h g args none=none:=aiu
theorem LO {g:Nat} {args:List D} {p:Nat×(Nat->Nat->Nat->Nat->List D->List D->Option (D×List D))} : cnL Γ e h g args (some p)=pP Γ e h g args:=aiu
theorem XC {g:Nat} {args:List D} : Ak Γ e h (some (.fn g,args))=cnL Γ e h g args (Γ.nx.lnd g):=by
 cases hl:Γ.nx.lnd g with
 | some p=>rfl
 | none =>
  show pP Γ e h g args=none
  cases hc:pP Γ e h g args with
  | none=>rfl
  | some E =>
   obtain⟨_,_,_,_,_,_,_,_,_,_,_,_,_,_,_,_,h1,_⟩:=qS hc
   rw[hl]at h1
   cases h1
theorem SS {f k:Nat} {xs args:List D} : Ak Γ e h (some (.clo f k xs,args))=none:=aiu
theorem XB {d g:Nat} {args:List D} : ln Γ e h (some d) (some (.fn g,args))=CS e d h args (Γ.nx.res g):=aiu
theorem SR {dst:Option Nat} {f k:Nat} {xs args:List D} : ln Γ e h dst (some (.clo f k xs,args))=none:=by cases dst<;>rfl
theorem L9 {q:Option (D×List D)} : ln Γ e h none q=none:=aiu
theorem Ma {d:Nat} {args:List D} : CS e d h args none=none:=aiu
theorem Mb {d:Nat} {args:List D} {p:List D->Option (Nat×Nat×Nat×Nat×Nat×List D)} : CS e d h args (some p)=Gt p e d (bn (EH h) args):=aiu
theorem Lf {d:Nat} {afM:List D} {p:List D->Option (Nat×Nat×Nat×Nat×Nat×List D)} : Gt p e d (some (afM,[]))=Jq e d (p afM):=aiu
theorem Gu {d ty tt s S n:Nat} {cs:List D} (hd:d<1000000):Jq e d (some (ty,tt,s,S,n,cs))=some ⟨.buf d e S 0 n,[(d,some ⟨e,ty,[.nr tt s (4*e+2) cs],false,true,true⟩)]⟩:=if_pos (by rw[bZ];exact hd)
def stC (y0 x y:Option bu) (dst:Option Nat) (ops l:List Oper) (ws:List W) (Q:Kt) (t:Nat->D) (h:Nat->Option Row) (e:Nat):Prop :=
 match y0 with
 | some E=>FW T Γ N F (some E) dst ops l ws Q t h e
 | none=>ER T Γ N F x y dst ops l ws Q t h e
def acM (y0 x y:Option bu) (dst:Option Nat) (ft:List Nat) (ops l:List Oper) (ws:List W) (Q:Kt) (t:Nat->D) (h:Nat->Option Row) (e:Nat) (fs:List ju):Prop :=
 match y0 with
 | some E=>FX T Γ N F (some E) dst ft ops l ws Q t h e fs
 | none=>ES T Γ N F x y dst ft ops l ws Q t h e fs
theorem O8 {x y:Option bu} : stC (T:=T) (Γ:=Γ) (N:=N) (F:=F) none x y dst ops l ws Q t h e=ER T Γ N F x y dst ops l ws Q t h e:=aiu
theorem IK {x y:Option bu} {ft:List Nat} : acM (T:=T) (Γ:=Γ) (N:=N) (F:=F) none x y dst ft ops l ws Q t h e fs=ES T Γ N F x y dst ft ops l ws Q t h e fs:=aiu
theorem O9 {x y:Option bu} {E:bu} : stC (T:=T) (Γ:=Γ) (N:=N) (F:=F) (some E) x y dst ops l ws Q t h e=FW T Γ N F (some E) dst ops l ws Q t h e:=aiu
theorem IL {x y:Option bu} {ft:List Nat} {E:bu} : acM (T:=T) (Γ:=Γ) (N:=N) (F:=F) (some E) x y dst ft ops l ws Q t h e fs=FX T Γ N F (some E) dst ft ops l ws Q t h e fs:=aiu
theorem LU {x:Operand} {afM:List Operand} {tys:Array Nat} : ny T Γ N F ⟨dst,.call ⟨.value x,afM.toArray,tys⟩,ty,pos,af,gd⟩ ops l ws Q t h e=stC (T:=T) (Γ:=Γ) (N:=N) (F:=F) (ln Γ e h dst (some (ev t x,afM.map (ev t)))) (gB Γ (EH h) e dst (ev t x) (afM.map (ev t))) (Ak Γ e h (some (ev t x,afM.map (ev t)))) dst ops l ws Q t h e:=by
 have hco:gp (ev t) (.call ⟨.value x,afM.toArray,tys⟩)=some (ev t x,afM.map (ev t)):=rfl
 cases hc:ln Γ e h dst (some (ev t x,afM.map (ev t))) with
 | none=>exact xk (fun _ _ _ hh=>by cases hh) rfl (by rw[hco];exact hc) rfl rfl
 | some E=>unfold ny PC mX;simp only[fO,hco,hc];rfl
theorem L0 {x:Operand} {afM:List Operand} {tys:Array Nat} : nA T Γ N F ⟨dst,.call ⟨.value x,afM.toArray,tys⟩,ty,pos,af,gd⟩ ops l ws Q t h e fs=acM (T:=T) (Γ:=Γ) (N:=N) (F:=F) (ln Γ e h dst (some (ev t x,afM.map (ev t)))) (gB Γ (EH h) e dst (ev t x) (afM.map (ev t))) (Ak Γ e h (some (ev t x,afM.map (ev t)))) dst (bl ⟨dst,.call ⟨.value x,afM.toArray,tys⟩,ty,pos,af,gd⟩ (ev t)) ops l ws Q t h e fs:=by
 have hco:gp (ev t) (.call ⟨.value x,afM.toArray,tys⟩)=some (ev t x,afM.map (ev t)):=rfl
 cases hc:ln Γ e h dst (some (ev t x,afM.map (ev t))) with
 | none=>exact xn (fun _ _ _ hh=>by cases hh) rfl (by rw[hco];exact hc) rfl rfl
 | some E=>unfold nA PC mX;simp only[fO,hco,hc];rfl
theorem zU {x:Builtin} {afM:List Operand} {tys:List Nat} : ny T Γ N F ⟨dst,.call ⟨.builtin x,afM.toArray,tys.toArray⟩,ty,pos,af,gd⟩ ops l ws Q t h e=yC T Γ N F (b8 T (EH h) e dst x tys (afM.map (ev t))) dst ops l ws Q t h e:=dZ (fun _ _ _ hh=>by cases hh) rfl
theorem zY {x:Builtin} {afM:List Operand} {tys:List Nat} : nA T Γ N F ⟨dst,.call ⟨.builtin x,afM.toArray,tys.toArray⟩,ty,pos,af,gd⟩ ops l ws Q t h e fs=yD T Γ N F (b8 T (EH h) e dst x tys (afM.map (ev t))) dst (bl ⟨dst,.call ⟨.builtin x,afM.toArray,tys.toArray⟩,ty,pos,af,gd⟩ (ev t)) ops l ws Q t h e fs:=ec (fun _ _ _ hh=>by cases hh) rfl
theorem bt {o:Array Oper} {A:Prop} (h1:CI o fs=true) (h2:A):CI o fs=true∧A:=⟨h1,h2⟩
theorem al {b:Bool} {g:Nat} {x y:Code} (h1:b=true->cA T Γ N F (.code x::ws) Q .normal (bB t g (.bool true)) h e) (h2:b=false->cA T Γ N F (.code y::ws) Q .normal (bB t g (.bool false)) h e):KF T Γ N F (.bool b) g x y ws Q t h e:=by rw[V9];exact⟨h1,h2⟩
theorem cY {b:Bool} {g:Nat} {o:Oper} (h1:b=true->ny T Γ N F o ops l ws Q (bB t g (.bool true)) h e) (h2:b=false->jy T Γ N F ops l ws Q (dV (bB t g (.bool false)) o.dst .skp) h e):vG T Γ N F (.bool b) g true o ops l ws Q t h e:=by rw[Wa];exact⟨h1,h2⟩
theorem aN {b:Bool} {g:Nat} {o:Oper} (h1:b=true->jy T Γ N F ops l ws Q (dV (bB t g (.bool true)) o.dst .skp) h e) (h2:b=false->ny T Γ N F o ops l ws Q (bB t g (.bool false)) h e):vG T Γ N F (.bool b) g false o ops l ws Q t h e:=by rw[RL];exact⟨h1,h2⟩
theorem KG {b:Bool} {g:Nat} {o:Oper} (h1:b=true->nA T Γ N F o ops l ws Q (bB t g (.bool true)) h e fs) (h2:b=false->ki T Γ N F ops l ws Q (dV (bB t g (.bool false)) o.dst .skp) h e (fs++[⟨[],true⟩])):vH T Γ N F (.bool b) g true o ops l ws Q t h e fs:=by rw[Wb];exact⟨h1,h2⟩
theorem mC {b:Bool} {g:Nat} {o:Oper} (h1:b=true->ki T Γ N F ops l ws Q (dV (bB t g (.bool true)) o.dst .skp) h e (fs++[⟨[],true⟩])) (h2:b=false->nA T Γ N F o ops l ws Q (bB t g (.bool false)) h e fs):vH T Γ N F (.bool b) g false o ops l ws Q t h e fs:=by rw[RM];exact⟨h1,h2⟩
def XI (mode:Mode) (T:Nat->Option Ty) (lent:Option (D×Row)) (rs:List ResultVar) (r:RK×Option Row):Kt:=fun x t h e=>ach mode T lent rs x t h e r
theorem An {mode:Mode} {lent:Option (D×Row)} {rs:List ResultVar} {r:RK×Option Row} : XI mode T lent rs r .normal t h e=(eR mode T lent rs ⟨t,EH h,e⟩=some r):=aiu
theorem b5 {mode:Mode} {lent:Option (D×Row)} {rs:List ResultVar} {r:RK×Option Row} : XI mode T lent rs r .ret t h e=(eR mode T lent rs ⟨t,EH h,e⟩=some r):=aiu
def abn (T:Nat->Option Ty) (ty tt s:Nat) (rs:List ResultVar) (r:D×List D):Kt:=fun x t h e =>
 match x with
 | .exit _=>False
 | _=>U5 T ty tt s rs ⟨t,h,e⟩=some r
theorem xD {ty tt s:Nat} {rs:List ResultVar} {r:D×List D} : abn T ty tt s rs r .normal t h e=(U5 T ty tt s rs ⟨t,h,e⟩=some r):=aiu
theorem Ha {ty tt s:Nat} {rs:List ResultVar} {r:D×List D} : abn T ty tt s rs r .ret t h e=(U5 T ty tt s rs ⟨t,h,e⟩=some r):=aiu
def abm (rs:List ResultVar) (r:Nat×Nat×Nat×Nat×Nat×List D):Kt:=fun x t h e =>
 match x with
 | .exit _=>False
 | _=>U4 rs ⟨t,h,e⟩=some r
theorem xC {rs:List ResultVar} {r:Nat×Nat×Nat×Nat×Nat×List D} : abm rs r .normal t h e=(U4 rs ⟨t,h,e⟩=some r):=aiu
theorem G9 {rs:List ResultVar} {r:Nat×Nat×Nat×Nat×Nat×List D} : abm rs r .ret t h e=(U4 rs ⟨t,h,e⟩=some r):=aiu
theorem S2 {ty tt s:Nat} {rs:List ResultVar} : U5 T ty tt s rs ⟨t,h,e⟩=Mk ty tt s (rP T ⟨t,EH h,e⟩ rs) (h 0):=aiu
theorem Ml {ty tt s nv:Nat} {lst:Bool} {ds cs:List D} : Mk ty tt s (some (ds,[])) (some ⟨0,ty,[.nr tt s nv cs],false,lst,true⟩)=some (kh ds,cs):=by
 simp[Mk,XH]
theorem S0 {i:Nat} : U4 [.tmp i] ⟨t,h,e⟩=SZ h (t i):=aiu
theorem G8 {x v S n:Nat} : SZ h (.buf x v S 0 n)=Mi x v S n (h x):=aiu
theorem Mj {x v S n ty tt s nv:Nat} {lst:Bool} {cs:List D} (hx:x<1000000):Mi x v S n (some ⟨v,ty,[.nr tt s nv cs],false,lst,true⟩)=some (ty,tt,s,S,n,cs):=by
 have:x<PK:=by rw[bZ];exact hx
 simp[Mi,XG,this]
theorem aB {mode:Mode} {fn:Func} {c:Code} {n:Nat} {rs:List ResultVar} {args:List D} {r:RK×Option Row} (hb:fn.body=some c) (hn:fn.ntmps=n) (hr:fn.results=rs.toArray) (hw:cA T Γ n F [.code c] (XI mode T none rs r) .normal (Fi args) TE 0) (hpk:n<=1000000:=by exact ahB rfl):aW mode T Γ F fn none args=some r:=by
 refine RY ?_ (by rw[hn];exact hpk)
 unfold wpf
 rw[hb,hn,hr]
 exact hw
theorem OT (r:Row) (i:Nat):lH r i=if i=0 then some r else none:=aiu
theorem E8 {mode:Mode} {fn:Func} {c:Code} {n:Nat} {rs:List ResultVar} {d0:D} {ty:Nat} {cells:List D} {fz lst:Bool} {args:List D} {r:RK×Option Row} (hb:fn.body=some c) (hn:fn.ntmps=n) (hr:fn.results=rs.toArray)
  (hw:cA T Γ n F [.code c] (XI mode T (some (d0,⟨0,ty,cells,fz,lst,false⟩)) rs r) .normal (Fi (d0::args)) (lH ⟨0,ty,cells,fz,lst,false⟩) 1) (hpk:n<=1000000:=by exact ahB rfl):aW mode T Γ F fn (some (d0,⟨0,ty,cells,fz,lst,false⟩)) args=some r:=by
 refine RY ?_ (by rw[hn];exact hpk)
 unfold wpf
 rw[hb,hn,hr]
 exact hw
end
section
variable {h:Nat->Option Row} {k x o v ty fz' nv s n e:Nat} {cs xs:List D} {fz lst:Bool}
theorem Wp (hk:k<2000000):EH h k=(h k).map (Bu k):=pO (by rw[bZ];exact hk)
theorem aba (hx:x<1000000):EH h (NK x o)=(h x).bind fun r=>pf r o:=pN (by rw[bZ];exact hx)
theorem IH:Bu k ⟨v,ty,cs,fz,lst,false⟩=⟨v,ty,cs,fz,lst,false⟩:=aiu
theorem TW {ks:List bV} : Bu k ⟨v,ty,[.mpc ks xs],fz,lst,true⟩=⟨v,ty,[.mpc ks xs],fz,lst,true⟩:=aiu
theorem YZ {y:Nat} : Bu k ⟨v,ty,[.ph y s n],fz,lst,true⟩=⟨v,ty,[.ph y s n],fz,lst,true⟩:=aiu
theorem YY {t:Nat} : Bu k ⟨v,ty,[.nr t s nv cs],fz,lst,true⟩=⟨v,ty,cs.mapIdx (oI k s),fz,lst,true⟩:=aiu
theorem N9 {t:Nat} : pf ⟨v,ty,[.nr t s nv cs],fz,lst,true⟩ o=DQ t nv fz (cs.drop o).head?:=aiu
theorem N8:DQ ty nv fz (some (.nx n xs))=some ⟨nv,ty,xs,fz,true,false⟩:=aiu
theorem abQ (hx:x<1000000):rt (NK x o)=x:=sg (by rw[bZ];exact hx)
theorem Hv:jq h []=[]:=aiu
theorem Hu {r:Option Row} {l:List (Nat×Option Row)} (hk:k<2000000):jq h ((k,r)::l)=(k,DR r)::jq (bB h k (DR r)) l:=by
 have h1:rt k=k:=gj (by rw[bZ];exact hk)
 have h2:yg h k r=DR r:=if_pos (by rw[bZ];exact hk)
 simp only[jq,h1,h2]
theorem Mw {r:Option Row} {l:List (Nat×Option Row)} (hx:x<1000000):jq h ((NK x o,r)::l)=(x,(h x).map (En o r))::jq (bB h x ((h x).map (En o r))) l:=by
 have hx':x<PK:=by rw[bZ];exact hx
 have h1:rt (NK x o)=x:=sg hx'
 have h2:yg h (NK x o) r=(h x).map (En o r):=by
  unfold yg
  rw[if_neg (by have:=dX x o;omega),qF o hx',BS o hx']
 simp only[jq,h1,h2]
theorem H0:DR none=none:=aiu
theorem DS:DR (some ⟨v,ty,cs,fz,lst,false⟩)=some ⟨v,ty,cs,fz,lst,false⟩:=aiu
theorem Ob {ks:List bV} : DR (some ⟨v,ty,[.mpc ks xs],fz,lst,true⟩)=some ⟨v,ty,[.mpc ks xs],fz,lst,true⟩:=aiu
theorem TD {y:Nat} : DR (some ⟨v,ty,[.ph y s n],fz,lst,true⟩)=some ⟨v,ty,[.ph y s n],fz,lst,true⟩:=aiu
theorem TN {t:Nat} {r:Option Row} : En o r ⟨v,ty,[.nr t s nv cs],fz,lst,true⟩=⟨v,ty,zt t s nv fz cs o r (cs.drop o).head?,fz,lst,true⟩:=aiu
theorem TU {t v':Nat} {xs':List D} : zt t s nv fz cs o (some ⟨v',t,xs',fz,true,false⟩) (some (.nx n xs))=if v'=nv then [.nr t s nv (putCells cs o [.nx n xs'])] else [.nr t s nv (putCells cs o [.und])]:=by
 by_cases hv:v'=nv<;>simp[zt,Ib,hv]
def lvN (x v:Nat):Option Row->Option (Row×Nat×Nat×Nat×List D)
 | some r=>if r.v=v∧r.fz=false∧r.mp=true∧x<1000000 then nrO r r.cells else none
 | none=>none
theorem Nu:eY h x v=lvN x v (h x):=by
 unfold eY lvN
 rw[bZ]
 cases h x<;>rfl
theorem Yd {t:Nat} (hx:x<1000000):lvN x v (some ⟨v,ty,[.nr t s nv cs],false,lst,true⟩)=some (⟨v,ty,[.nr t s nv cs],false,lst,true⟩,t,s,nv,cs):=by
 simp only[lvN,true_and,hx,and_self,if_true,nrO]
def acq (τ:Ty) (x o:Nat):Option (Row×Nat×Nat×Nat×List D)->Option bu
 | some (r,ty,s,nv,cs)=>Dx τ x s nv o cs (cs.drop o).head?
 | none=>none
theorem Tp {τ:Ty} : nV τ h (.ptr x v o)=acq τ x o (eY h x v):=by
 simp only[nV,acq]
 cases eY h x v<;>rfl
theorem HG {τ:Ty} {r:Row} {t:Nat} : acq τ x o (some (r,t,s,nv,cs))=Dx τ x s nv o cs (cs.drop o).head?:=aiu
theorem Tn {ds:Ds} {b:Nat} {z:List Value} {q:Bool} : Dx ⟨ds,1,b,z,q⟩ x s nv o cs (some (.nx n xs))=if ds.nn=false then some ⟨.buf (NK x o) nv s 0 n,[]⟩ else none:=by
 simp only[Dx,true_and]
def Vm (τ:Ty) (o:Nat) (cs:List D):Option bu :=
 if o+τ.size<=cs.length∧((cs.drop o).take τ.size).all eu=true then okD (iL τ ((cs.drop o).take τ.size)) else none
theorem Nl {τ:Ty} {kk:IntKind} {i:Int} : Dx τ x s nv o cs (some (.int kk i))=Vm τ o cs:=aiu
theorem HH {τ:Ty} {b:Bool} : Dx τ x s nv o cs (some (.bool b))=Vm τ o cs:=aiu
theorem Nn {τ:Ty} {b:ByteArray} : Dx τ x s nv o cs (some (.str b))=Vm τ o cs:=aiu
theorem To {τ:Ty} {a b:Bool} : Dx τ x s nv o cs (some (.sl a b n xs))=Vm τ o cs:=aiu
def aa0 (τ:Ty) (e:Nat) (h:Nat->Option Row) (x o:Nat) (d:D):Option (Row×Nat×Nat×Nat×List D)->Option bu
 | some (r,ty,s,nv,cs)=>if o+τ.size<=cs.length∧0<τ.size then vF τ e h x r ty s nv cs o d else none
 | none=>none
theorem T2 {τ:Ty} {d:D} : ly τ e h (.ptr x v o) d=aa0 τ e h x o d (eY h x v):=by
 simp only[ly,aa0]
 cases eY h x v<;>rfl
theorem IU {ds:Ds} {m b:Nat} {z:List Value} {q:Bool} {d:D} {r:Row} {t:Nat} (hm:0<m) (hc:o+m<=cs.length):aa0 ⟨ds,m,b,z,q⟩ e h x o d (some (r,t,s,nv,cs))=vF ⟨ds,m,b,z,q⟩ e h x r t s nv cs o d:=by
 simp only[aa0,hm,hc,and_self,if_true]
theorem IV {ds:Ds} {b:Nat} {z:List Value} {q:Bool} {r:Row} {t:Nat} : vF ⟨ds,1,b,z,q⟩ e h x r t s nv cs o (.buf (NK x o) nv s 0 n)=zw x r t s nv cs o n (cs.drop o).head?:=by
 simp only[vF,and_self,if_true]
theorem IJ {ds:Ds} {r:Row} {t n0:Nat} : zw x r t s nv cs o n (some (.nx n0 xs))=if n*s<=xs.length then some ⟨.und,[(x,some ⟨r.v,r.ty,[.nr t s nv (putCells cs o [.nx n (xs.take (n*s))])],false,r.lst,true⟩)]⟩ else none:=aiu
def acN (x:Nat) (r:Row) (ty s:Nat) (cs:List D) (o y n:Nat) (b:Option Nat):Option Row->Option bu
 | some q=>if q.fz=false∧q.lst=true∧q.ty=ty∧q.cells.length=n*s then zx x r ty s cs o y n q b else none
 | none=>none
theorem IX {ds:Ds} {b y vy:Nat} {z:List Value} {q:Bool} {r:Row} {t:Nat} (hy:y<1000000):vF ⟨ds,1,b,z,q⟩ e h x r t s nv cs o (.buf y vy s 0 n)=acN x r t s cs o y n (bump nv e) (live h y vy):=by
 have h1:¬y=NK x o:=by have:=dX x o;rw[bZ]at this;omega
 have h2:y<PK:=by rw[bZ];exact hy
 simp only[vF,and_self,if_true,h1,if_false,h2]
 cases live h y vy<;>rfl
theorem IT {r q:Row} {t nv' y:Nat} (hc:q.fz=false∧q.lst=true∧q.ty=t∧q.cells.length=n*s):acN x r t s cs o y n (some nv') (some q)=some ⟨.und,[(y,none),(x,some ⟨r.v,r.ty,[.nr t s nv' (putCells cs o [.nx n q.cells])],false,r.lst,true⟩)]⟩:=by
 simp only[acN,hc,and_self,if_true,zx]
theorem Ph {τ:Ty} {r:Row} {t:Nat} {kk:IntKind} {i:Int} : vF τ e h x r t s nv cs o (.int kk i)=zy τ x r t s nv cs o (some [.int kk i]):=aiu
theorem IW {τ:Ty} {r:Row} {t:Nat} {b:Bool} : vF τ e h x r t s nv cs o (.bool b)=zy τ x r t s nv cs o (some [.bool b]):=aiu
theorem Pj {τ:Ty} {r:Row} {t:Nat} {b:ByteArray} : vF τ e h x r t s nv cs o (.str b)=zy τ x r t s nv cs o (some [.str b]):=aiu
theorem T1 {τ:Ty} {r:Row} {t:Nat} {a b:Bool} : vF τ e h x r t s nv cs o (.sl a b n xs)=zy τ x r t s nv cs o (some [.sl a b n xs]):=aiu
theorem Pg {τ:Ty} {r:Row} {t:Nat} : vF τ e h x r t s nv cs o (.agg xs)=zy τ x r t s nv cs o (some xs):=aiu
theorem I1 {τ:Ty} {r:Row} {t:Nat} {c':List D} : zy τ x r t s nv cs o (some c')=if c'.length=τ.size∧c'.all eu=true then some ⟨.und,[(x,some ⟨r.v,r.ty,[.nr t s nv (putCells cs o (c'.map canon))],false,r.lst,true⟩)]⟩ else none:=aiu
theorem Bz (hn:nv<=4*e):bump nv e=some (4*e+1):=if_pos hn
theorem WX (hn:nv=4*e+2):bump nv e=some (4*e+3):=by unfold bump;rw[if_neg (by omega),if_pos hn]
theorem OG {E:bu} {y:Option bu} : orE (some E) y=some E:=aiu
theorem OF {y:Option bu} : orE none y=y:=aiu
def Vj (τ:Ty) (x o:Nat):Option (Row×Nat×Nat×Nat×List D)->Option bu
 | some (r,ty,s,nv,cs)=>if r.lst=false∧o=0∧cs.length=τ.size∧1<τ.size∧cs.all (Bk s)=true then QF x r ty s nv (lI τ.size 0 cs) (iL τ (cs.map Wd)) else none
 | none=>none
theorem Tm {τ:Ty} : td τ h (.ptr x v o)=orE (Vj τ x o (eY h x v)) (nV τ h (.ptr x v o)):=by
 simp only[td,nU]
 cases eY h x v<;>rfl
theorem HE {τ:Ty} : Vj τ x o none=none:=aiu
theorem X5 {τ:Ty} {v' ty:Nat} {cells:List D} {fz mp:Bool} {t:Nat} : Vj τ x o (some (⟨v',ty,cells,fz,true,mp⟩,t,s,nv,cs))=none:=by simp[Vj]
theorem X6 {τ:Ty} {v' ty:Nat} {cells:List D} {fz mp:Bool} {t:Nat} : Vj τ x o (some (⟨v',ty,cells,fz,false,mp⟩,t,s,nv,cs))=if o=0∧cs.length=τ.size∧1<τ.size∧cs.all (Bk s)=true then QF x ⟨v',ty,cells,fz,false,mp⟩ t s nv (lI τ.size 0 cs) (iL τ (cs.map Wd)) else none:=by
 simp only[Vj,true_and]
theorem HF {r:Row} {t:Nat} {d:D} : QF x r t s nv cs (some d)=some ⟨d,[(x,some ⟨r.v,r.ty,[.nr t s nv cs],false,r.lst,true⟩)]⟩:=aiu
def V5 (τ:Ty) (e x o:Nat) (d:D):Option (Row×Nat×Nat×Nat×List D)->Option bu
 | some (r,ty,s,nv,cs)=>if r.lst=false∧o=0∧cs.length=τ.size then Rq τ.size e x r ty s nv cs d else none
 | none=>none
theorem TX {τ:Ty} {d:D} : tf τ e h (.ptr x v o) d=orE (V5 τ e x o d (eY h x v)) (ly τ e h (.ptr x v o) d):=by
 simp only[tf,nZ]
 cases eY h x v<;>rfl
theorem I3 {τ:Ty} {d:D} : V5 τ e x o d none=none:=aiu
theorem Y6 {τ:Ty} {d:D} {v' ty:Nat} {cells:List D} {fz mp:Bool} {t:Nat} : V5 τ e x o d (some (⟨v',ty,cells,fz,true,mp⟩,t,s,nv,cs))=none:=by simp[V5]
theorem Y7 {τ:Ty} {d:D} {v' ty:Nat} {cells:List D} {fz mp:Bool} {t:Nat} : V5 τ e x o d (some (⟨v',ty,cells,fz,false,mp⟩,t,s,nv,cs))=if o=0∧cs.length=τ.size then Rq τ.size e x ⟨v',ty,cells,fz,false,mp⟩ t s nv cs d else none:=by
 simp only[V5,true_and]
theorem Pp {n' t:Nat} {r:Row} : Rq n' e x r t s nv cs (.agg xs)=if xs.length=n' then stZ x r t s (bump nv e) (qo cs xs) else none:=aiu
theorem Po {r:Row} {t nv':Nat} {cs':List D} : stZ x r t s (some nv') (some cs')=some ⟨.und,[(x,some ⟨r.v,r.ty,[.nr t s nv' cs'],false,r.lst,true⟩)]⟩:=aiu
def aa9:Option D->Option (List D)->Option (List D)
 | some y,some ys=>some (y::ys)
 | _,_=>none
theorem Jd {y:D} {ys:List D} : aa9 (some y) (some ys)=some (y::ys):=aiu
theorem Je:qo [] []=some []:=aiu
theorem Fb {c x:D} {cs xs:List D} : qo (c::cs) (x::xs)=aa9 (F3 c x) (qo cs xs):=by
 simp only[qo]
 cases F3 c x<;>cases qo cs xs<;>rfl
theorem UI:F3 (.nx n xs) (.sl true true 0 [])=some (.nx 0 []):=aiu
theorem UG {k k':IntKind} {i j:Int} : F3 (.int k i) (.int k' j)=some (.int k' j):=aiu
theorem PB {a b:D} : lI 2 0 [a,b]=[Wd a,Wd b]:=aiu
theorem Uy {k:IntKind} {i:Int} : Wd (.int k i)=.int k i:=aiu
theorem Z1:Wd (.nx n xs)=.sl false false n xs:=aiu
theorem TH {k:IntKind} {i:Int} : Bk s (.int k i)=true:=aiu
theorem Yz:Bk s (.nx n xs)=(xs.length==n*s):=aiu
theorem YA {a b:Bool} : Bk s (.sl a b n xs)=true:=aiu
theorem Z2 {a b:Bool} : Wd (.sl a b n xs)=.sl a b n xs:=aiu
theorem UH {m:Nat} {ys:List D} : F3 (.nx n xs) (.sl false false m ys)=none:=aiu
theorem UJ {a b c d:Bool} {m:Nat} {ys:List D} : F3 (.sl a b n xs) (.sl c d m ys)=some (.sl false false m ys):=aiu
theorem Jc {ys:Option (List D)} : aa9 none ys=none:=aiu
theorem PF {y:Option D} : aa9 y none=none:=by cases y<;>rfl
theorem Pn {r:Row} {t:Nat} {b:Option Nat} : stZ x r t s b none=none:=by cases b<;>rfl
end
section
variable {Γ:Env} {g d:Nat} {p:Nat×Nat×Nat}
theorem S7 {f:Nat} {l:Bool} {G:Option (D×Row)->List D->Option (RK×Option Row)} : (Am.ext Γ f l G).nst g=Γ.nst g:=aiu
theorem Nc:(Am.keep d Γ).nst g=Γ.nst g:=aiu
theorem MY {y:Nat} : (Am.vV d y Γ).nst g=Γ.nst g:=aiu
theorem M7 {f:Nat} : (Am.Dr f p Γ).nst g=Γ.nst g:=aiu
theorem MS {f:Nat} {q:Grow} : (Am.Dk f q Γ).nst g=Γ.nst g:=aiu
theorem HX:a7.nst g=none:=aiu
theorem Om:(Am.vE d p Γ).nst g=if g=d then some p else Γ.nst g:=aiu
theorem DW:(Am.vE d p Γ).lends g=Γ.lends g:=aiu
theorem Oo {l:Option (D×Row)} {afM:List D} : (Am.vE d p Γ).sem g l afM=Γ.sem g l afM:=aiu
theorem On:(Am.vE d p Γ).own g=Γ.own g:=aiu
theorem H5:(Am.vE d p Γ).hint g=Γ.hint g:=aiu
theorem Ol:(Am.vE d p Γ).ins g=Γ.ins g:=aiu
theorem Oj:(Am.vE d p Γ).grw g=Γ.grw g:=aiu
theorem XK {f:Nat} {l:Bool} {G:Option (D×Row)->List D->Option (RK×Option Row)} : (Am.ext Γ f l G).nx=Γ.nx:=aiu
theorem Ti:(Am.keep d Γ).nx=Γ.nx:=aiu
theorem Tf {y:Nat} : (Am.vV d y Γ).nx=Γ.nx:=aiu
theorem Tg {f:Nat} : (Am.Dr f p Γ).nx=Γ.nx:=aiu
theorem Tc {f:Nat} {q:Grow} : (Am.Dk f q Γ).nx=Γ.nx:=aiu
theorem TF:(Am.vE d p Γ).nx=Γ.nx:=aiu
theorem HW:a7.nx.lnd g=none:=aiu
theorem HZ:a7.nx.res g=none:=aiu
end
section
variable {Γ:Env} {g d f:Nat} {p:Nat×(Nat->Nat->Nat->Nat->List D->List D->Option (D×List D))}
theorem Nz:(Am.Bg f p Γ).nx.lnd g=if g=f then some p else Γ.nx.lnd g:=aiu
theorem NC:(Am.Bg f p Γ).nx.res g=Γ.nx.res g:=aiu
theorem DE:(Am.Bg f p Γ).lends g=Γ.lends g:=aiu
theorem ND {l:Option (D×Row)} {afM:List D} : (Am.Bg f p Γ).sem g l afM=Γ.sem g l afM:=aiu
theorem NB:(Am.Bg f p Γ).own g=Γ.own g:=aiu
theorem HK:(Am.Bg f p Γ).hint g=Γ.hint g:=aiu
theorem Ny:(Am.Bg f p Γ).ins g=Γ.ins g:=aiu
theorem Nx:(Am.Bg f p Γ).grw g=Γ.grw g:=aiu
theorem NA:(Am.Bg f p Γ).nst g=Γ.nst g:=aiu
end
section
variable {Γ:Env} {g d f:Nat} {p:List D->Option (Nat×Nat×Nat×Nat×Nat×List D)}
theorem Oh:(Am.Bj f p Γ).nx.res g=if g=f then some p else Γ.nx.res g:=aiu
theorem Oe:(Am.Bj f p Γ).nx.lnd g=Γ.nx.lnd g:=aiu
theorem DV:(Am.Bj f p Γ).lends g=Γ.lends g:=aiu
theorem Oi {l:Option (D×Row)} {afM:List D} : (Am.Bj f p Γ).sem g l afM=Γ.sem g l afM:=aiu
theorem Og:(Am.Bj f p Γ).own g=Γ.own g:=aiu
theorem H4:(Am.Bj f p Γ).hint g=Γ.hint g:=aiu
theorem Od:(Am.Bj f p Γ).ins g=Γ.ins g:=aiu
theorem Oc:(Am.Bj f p Γ).grw g=Γ.grw g:=aiu
theorem Of:(Am.Bj f p Γ).nst g=Γ.nst g:=aiu
end
section
variable {Γ:Env} {h:Nat->Option Row} {e x v o g:Nat} {rest:List D}
def PV (Γ:Env) (e:Nat) (h:Nat->Option Row) (g x o:Nat) (rest:List D):Option (Row×Nat×Nat×Nat×List D)->Option bu
 | some (r,ty,s,nv,cs)=>Cg e x r ty s nv cs o (Γ.nx.lnd g) (bn (EH h) rest)
 | none=>none
theorem Gv:pP Γ e h g (.ptr x v o::rest)=PV Γ e h g x o rest (eY h x v):=by
 simp only[pP,PV]
 cases eY h x v<;>rfl
theorem zQ {r:Row} {ty s nv:Nat} {cs:List D} : PV Γ e h g x o rest (some (r,ty,s,nv,cs))=Cg e x r ty s nv cs o (Γ.nx.lnd g) (bn (EH h) rest):=aiu
theorem zO {r:Row} {ty s nv:Nat} {cs afM:List D} {p:Nat×(Nat->Nat->Nat->Nat->List D->List D->Option (D×List D))} : Cg e x r ty s nv cs o (some p) (some (afM,[]))=Jr x r ty s o p.1 (bump nv e) (p.2 r.ty ty s o cs afM):=aiu
theorem zP {r:Row} {ty s nv' k:Nat} {d:D} {cs':List D} : Jr x r ty s o k (some nv') (some (d,cs'))=if ((cs'.drop o).take k).all (Bk s)=true then some ⟨d,[(x,some ⟨r.v,r.ty,[.nr ty s nv' (lI k o cs')],false,r.lst,true⟩)]⟩ else none:=aiu
end
end Go.Proofs.YtmcncjgbkobjnaaGreat.Am
namespace Go.Proofs.YtmcncjgbkobjnaaGreat.P
open Go.RowKit
def FU:Nat:=1000000000000000000000000
def mL {σ ρ:Type} (body:σ->Option (σ⊕ρ)):Nat->σ->Option ρ
 | 0,_=>none
 | n+1,s =>
  match body s with
  | some (.inl s')=>mL body n s'
  | some (.inr r)=>some r
  | none=>none
def bc {σ ρ:Type} (body:σ->Option (σ⊕ρ)) (s:σ):Option ρ:=mL body FU s
theorem X1 {σ ρ:Type} {body:σ->Option (σ⊕ρ)} (I:σ->Prop) (μ:σ->Nat) (Q:ρ->Prop)
  (hstep:∀s,I s->(∃s',body s=some (.inl s')∧I s'∧μ s'<μ s)∨(∃r,body s=some (.inr r)∧Q r)):∀(n:Nat) (s:σ),I s->μ s<n->∃r,mL body n s=some r∧Q r:=by
 intro n
 induction n with
 | zero=>intro s _ h;omega
 | succ n ih =>
  intro s hI hμ
  rcases hstep s hI with⟨s',h1,h2,h3⟩|⟨r,h1,h2⟩
  ·obtain⟨r,h4,h5⟩:=ih s' h2 (by omega)
   exact⟨r,by simp only[mL,h1];exact h4,h5⟩
  ·exact⟨r,by simp only[mL,h1],h2⟩
theorem DF {σ ρ:Type} {body:σ->Option (σ⊕ρ)} (I:σ->Prop) (μ:σ->Nat) (Q:ρ->Prop) {s:σ} (hI:I s) (hμ:μ s<FU)
  (hstep:∀s,I s->(∃s',body s=some (.inl s')∧I s'∧μ s'<μ s)∨(∃r,body s=some (.inr r)∧Q r)):∃r,bc body s=some r∧Q r:=X1 I μ Q hstep FU s hI hμ
def idx {α:Type} (l:List α) (i:Int):Option α:=if 0<=i∧i<l.length then l[i.toNat]? else none
def Bv {α:Type} (l:List α) (a b:Int):Option (List α):=if 0<=a∧a<=b∧b<=l.length then some ((l.drop a.toNat).take (b.toNat-a.toNat)) else none
def FJ {α:Type} (bytes:Nat) (n c:Int) (z:α):Option (List α):=if 0<=n∧n<=c∧c<=maxLen∧c.toNat*bytes<=140737488355328 then some (List.replicate n.toNat z) else none
def lu {α:Type} (bytes:Nat) (l m:List α):Option (List α):=if l.length+m.length<=maxLen∧(l.length+m.length)*bytes<=140737488355328 then some (l++m) else none
def ady {α:Type} (l:List α):List (Bool×α):=l.map fun x=>(false,x)
def Ct (k:IntKind) (x y:Int):Option Int:=if y=0 then none else some (k.wrap (x.tdiv y))
def J9 (_:IntKind) (x y:Int):Option Int:=if y=0 then none else some (x.tmod y)
def FT (k:IntKind) (x y:Int):Option Int:=if y<0 then none else some (k.wrap (x*2 ^ (min y.toNat k.bits)))
def sA (k:IntKind) (x y:Int):Option Int:=if y<0 then none else some (x.fdiv (2 ^ (min y.toNat k.bits)))
def gn (op:BinOp) (k:IntKind) (x y:Int):Int :=
 let a:=BitVec.ofInt k.bits x
 let b:=BitVec.ofInt k.bits y
 match op with
 | .and=>k.wrap (a &&& b).toNat
 | .or=>k.wrap (a ||| b).toNat
 | .xor=>k.wrap (a ^^^ b).toNat
 | _=>k.wrap (a &&& ~~~b).toNat
def tz {κ α:Type} [DecidableEq κ] (z:α):List (κ×α)->κ->α
 | [],_=>z
 | (k,v)::m,n=>if k=n then v else tz z m n
def Vc {κ α:Type} [DecidableEq κ]:List (κ×α)->κ->Bool
 | [],_=>false
 | (k,_)::m,n=>k==n||Vc m n
def Ko {κ α:Type} [DecidableEq κ]:List (κ×α)->κ->α->List (κ×α)
 | [],n,v=>[(n,v)]
 | (k,x)::m,n,v=>if k=n then (k,v)::m else (k,x)::Ko m n v
def A0 (l:List Int):List Int:=l.mergeSort fun x y=>decide (x<=y)
theorem qm (l:List Int):(A0 l).length=l.length:=List.length_mergeSort l
theorem II:A0 []=[]:=by simp[A0]
theorem ah {α β:Type} {o:Option α} {f:α->Option β} {r:β} (h:o.bind f=some r):∃a,o=some a∧f a=some r:=by
 cases o with
 | none=>cases h
 | some a=>exact⟨a,rfl,h⟩
theorem adC {α:Type} {b:Bool} {x y r:α} (hb:b=true) (h:(if b=true then x else y)=r):x=r:=by rw[if_pos hb]at h;exact h
theorem adB {α:Type} {b:Bool} {x y r:α} (hb:b=false) (h:(if b=true then x else y)=r):y=r:=by rw[hb]at h;simpa using h
theorem ai {a b:Prop} (x:a) (y:b):a∧b:=⟨x,y⟩
theorem sp {α:Type} {b:Bool} {P1 P2 Q:Prop} {x y r:α} (k:(b=true->P1)->(b=false->P2)->Q) (h:(if b=true then x else y)=r) (h1:b=true->x=r->P1) (h2:b=false->y=r->P2):Q:=k (fun hb=>h1 hb (adC hb h)) fun hb=>h2 hb (adB hb h)
end Go.Proofs.YtmcncjgbkobjnaaGreat.P
namespace Go.Proofs.YtmcncjgbkobjnaaGreat.Am
open Go.RowKit Go.Proofs.YtmcncjgbkobjnaaGreat.P
structure ij (α:Type) where
 cells:α->List D
 size:Nat
 len:∀x,(cells x).length=size
 pos:0<size
 inj:∀x y,cells x=cells y->x=y
def ab {α:Type} (e:ij α):List α->List D
 | []=>[]
 | x::l=>e.cells x++ab e l
section
variable {α β:Type} (e:ij α)
theorem xB:ab e []=[]:=rfl
theorem bo (x:α) (l:List α):ab e (x::l)=e.cells x++ab e l:=rfl
theorem iI:∀l m:List α,ab e (l++m)=ab e l++ab e m
 | [],m=>rfl
 | x::l,m=>by rw[ahJ,bo,bo,iI l m,ahd]
theorem bx:∀l:List α,(ab e l).length=l.length*e.size
 | []=>by simp[ab]
 | x::l=>by rw[bo,ag1,bx l,e.len,agi,agO];omega
theorem uA:∀(l:List α) (i:Nat),(ab e l).drop (i*e.size)=ab e (l.drop i)
 | l,0=>by simp
 | [],i+1=>by simp[ab]
 | x::l,i+1=>by
  rw[bo,ahK,<- uA l i,ahC,e.len,ahD (by rw[e.len,agO];omega),ahA]
  congr 1
  rw[agO];omega
theorem eW:∀(l:List α) (i:Nat),(ab e l).take (i*e.size)=ab e (l.take i)
 | l,0=>by simp[ab]
 | [],i+1=>by simp[ab]
 | x::l,i+1=>by
  rw[bo,ahL,bo,ahg,e.len,ahi (by rw[e.len,agO];omega),<- eW l i]
  congr 2
  rw[agO];omega
theorem th:∀l m:List α,ab e l=ab e m->l=m
 | [],[],_=>rfl
 | [],y::m,h=>by
  have:=congrArg List.length h
  have hp:=e.pos
  rw[bo,ag1,e.len]at this
  simp[ab]at this
  omega
 | x::l,[],h=>by
  have:=congrArg List.length h
  have hp:=e.pos
  rw[bo,ag1,e.len]at this
  simp[ab]at this
  omega
 | x::l,y::m,h=>by
  rw[bo,bo]at h
  obtain⟨h1,h2⟩:=List.append_inj h (by rw[e.len,e.len])
  rw[e.inj _ _ h1,th l m h2]
theorem Mh:∀(n:Nat) (x:α),lG n (e.cells x)=ab e (List.replicate n x)
 | 0,x=>by simp[lG,ab]
 | n+1,x=>by rw[agM,bo,<- Mh n x];simp[lG,List.replicate_succ]
end
def eI (k:IntKind):ij Int:=⟨fun n=>[.int k n],1,fun _=>rfl,by decide,fun x y h=>by simpa using h⟩
def gN:ij Bool:=⟨fun n=>[.bool n],1,fun _=>rfl,by decide,fun x y h=>by simpa using h⟩
def ace:ij ByteArray:=⟨fun n=>[.str n],1,fun _=>rfl,by decide,fun x y h=>by simpa using h⟩
def lf {α:Type} (e:ij α):ij (List α):=⟨fun l=>[.sl false false l.length (ab e l)],1,fun _=>rfl,by decide,fun x y h=>by
 simp only[agf,D.sl.injEq,true_and,and_true]at h
 exact th e _ _ h.2⟩
def jG {α β:Type} (e:ij α) (f:ij β):ij (α×β):=⟨fun x=>e.cells x.1++f.cells x.2,e.size+f.size,fun x=>by rw[ag1,e.len,f.len],afU e.pos (Nat.le_add_right _ _),fun x y h=>by
 obtain⟨h1,h2⟩:=List.append_inj h (by rw[e.len,e.len])
 exact Prod.ext (e.inj _ _ h1) (f.inj _ _ h2)⟩
def wE {α β:Type} (e:ij β) (f:α->β) (hf:∀x y,f x=f y->x=y):ij α:=⟨fun x=>e.cells (f x),e.size,fun x=>e.len _,e.pos,fun x y h=>hf _ _ (e.inj _ _ h)⟩
structure Arg (α:Type) where
 d:α->D
 inj:∀x y,d x=d y->x=y
def aI (k:IntKind):Arg Int:=⟨fun n =>.int k n,fun x y h=>by simpa using h⟩
def ado:Arg Bool:=⟨fun n =>.bool n,fun x y h=>by simpa using h⟩
def pE {α:Type} (e:ij α):Arg (List α):=⟨fun l =>.sl false false l.length (ab e l),fun x y h=>by
 simp only[D.sl.injEq,true_and]at h
 exact th e _ _ h.2⟩
def bM {α:Type} (e:ij α):Arg α:=⟨fun x =>.agg (e.cells x),fun x y h=>e.inj _ _ (by simpa using h)⟩
theorem xr (k:IntKind) (n:Int):(eI k).cells n=[.int k n]:=aiu
theorem Aa (n:Bool):gN.cells n=[.bool n]:=aiu
theorem CL (n:ByteArray):ace.cells n=[.str n]:=aiu
theorem G3 {α:Type} (e:ij α) (l:List α):(lf e).cells l=[.sl false false l.length (ab e l)]:=aiu
structure jt (α:Type) where
 ds:α->List D
 inj:∀x y,ds x=ds y->x=y
def as0:jt Unit:=⟨fun _=>[],fun _ _ _=>rfl⟩
def eU {α:Type} (a:Arg α):jt α:=⟨fun x=>[a.d x],fun x y h=>a.inj _ _ (by simpa using h)⟩
def jO {α β:Type} (a:Arg α) (b:jt β):jt (α×β):=⟨fun x=>a.d x.1::b.ds x.2,fun x y h=>by
 simp only[agf]at h
 exact Prod.ext (a.inj _ _ h.1) (b.inj _ _ h.2)⟩
def fb {α β:Type} (A:jt α) (F:α->Option β) (R:β->RK):Option (D×Row)->List D->Option (RK×Option Row):=fun lent ds =>
 match lent with
 | none=>open Classical in if h:∃a,A.ds a=ds then (F (Classical.choose h)).map fun r=>(R r,none) else none
 | some _=>none
theorem aJ {α β:Type} (A:jt α) (F:α->Option β) (R:β->RK) (a:α):fb A F R none (A.ds a)=(F a).map fun r=>(R r,none):=by
 have h:∃b,A.ds b=A.ds a:=⟨a,rfl⟩
 simp only[fb]
 rw[dif_pos h,A.inj _ _ (Classical.choose_spec h)]
theorem pZ {α β:Type} {A:jt α} {F:α->Option β} {R:β->RK} {lent:Option (D×Row)} {ds:List D} {rk:RK} {out:Option Row} (h:fb A F R lent ds=some (rk,out)):lent=none∧out=none∧∃a r,ds=A.ds a∧F a=some r∧rk=R r:=by
 unfold fb at h
 split at h
 ·split at h
  ·rename_i he
   rw[afP]at h
   obtain⟨r,h1,h2⟩:=h
   simp only[Prod.mk.injEq]at h2
   obtain⟨rfl,rfl⟩:=h2
   exact⟨rfl,rfl,_,r,(Classical.choose_spec he).symm,h1,rfl⟩
  ·cases h
 ·cases h
structure bP (P:Program) (f:FuncId) (G:Option (D×Row)->List D->Option (RK×Option Row)):Prop where
 calls:∀lent afM rk out,G lent afM=some (rk,out)->pq P f lent afM rk out
 callable:dz P f
theorem bP.of {P:Program} {T:Nat->Option Ty} {Γ:Env} (hT:gz P T) (hΓ:bA P Γ) (hm:P.follows .mixedOrders=true) {α β:Type} {A:jt α} {F:α->Option β} {R:β->RK} {mode:Mode} {f:FuncId} {fn:Func} (hf:P.funcs[f]? = some fn) (hok:(match fn.body with|some c=>codeOk c|none=>true)=true)
  (hc:(fn.name == "runtime.NumGoroutine")=false∧fn.body.isNone=false) (hn:∀a,(A.ds a).length<=fn.ntmps) (h:∀a r,F a=some r->aW mode T Γ FU fn none (A.ds a)=some (R r,none)):bP P f (fb A F R) where
 calls lent afM rk out hg:=by
  obtain⟨rfl,rfl,a,r,rfl,hr,rfl⟩:=pZ hg
  exact iT hT hΓ hm hf hok (hn a) rfl (h a r hr)
 callable:=⟨fn,hf,hc⟩
theorem bA.add {P:Program} {Γ:Env} (hΓ:bA P Γ) {f:Nat} {G:Option (D×Row)->List D->Option (RK×Option Row)} (h:bP P f G) (l:Bool):bA P (Am.ext Γ f l G):=hΓ.ext h.calls h.callable
section
variable {T:Nat->Option Ty} {Γ:Env} {N e:Nat} {ws:List W} {Q:Kt} {t:Nat->D} {h:Nat->Option Row}
def LK {σ ρ:Type} (Rel:σ->(Nat->D)->(Nat->Option Row)->Nat->Prop) (RelX:ρ->Ex->(Nat->D)->(Nat->Option Row)->Nat->Prop) (c:σ⊕ρ):Kt:=fun x t h e =>
 match x with
 | .normal=>∃s',c=.inl s'∧Rel s' t h e
 | x=>∃o,c=.inr o∧RelX o x t h e
theorem gL {σ ρ:Type} {Rel:σ->(Nat->D)->(Nat->Option Row)->Nat->Prop} {RelX:ρ->Ex->(Nat->D)->(Nat->Option Row)->Nat->Prop} {s':σ} (k:Rel s' t h e):LK Rel RelX (.inl s') .normal t h e:=⟨s',rfl,k⟩
theorem jr {σ ρ:Type} {Rel:σ->(Nat->D)->(Nat->Option Row)->Nat->Prop} {RelX:ρ->Ex->(Nat->D)->(Nat->Option Row)->Nat->Prop} {o:ρ} {n:Nat} (k:RelX o (.exit n) t h e):LK Rel RelX (.inr o) (.exit n) t h e:=⟨o,rfl,k⟩
theorem rz {σ ρ:Type} {Rel:σ->(Nat->D)->(Nat->Option Row)->Nat->Prop} {RelX:ρ->Ex->(Nat->D)->(Nat->Option Row)->Nat->Prop} {o:ρ} (k:RelX o .ret t h e):LK Rel RelX (.inr o) .ret t h e:=⟨o,rfl,k⟩
theorem ay {σ ρ:Type} {body:σ->Option (σ⊕ρ)} {b:Code} (Rel:σ->(Nat->D)->(Nat->Option Row)->Nat->Prop) (RelX:ρ->Ex->(Nat->D)->(Nat->Option Row)->Nat->Prop) {s0:σ} {out:ρ} (hL:bc body s0=some out) (h0:Rel s0 t h e)
  (hstep:∀s t h e,Rel s t h e->∀c,body s=some c->cA T Γ N FU [.code b] (LK Rel RelX c) .normal t h e)
  (hexit:∀x t h e,RelX out x t h e->cA T Γ N FU ws Q x t h e):TR T Γ N FU b ws Q t h e:=by
 have key:∀(n:Nat) (s:σ) (t:Nat->D) (h:Nat->Option Row) (e:Nat),Rel s t h e->mL body n s=some out->∃x s',iter (fj T Γ N FU b) n ⟨t,h,e⟩=some (x,s')∧cA T Γ N FU ws Q x s'.t s'.h s'.e:=by
  intro n
  induction n with
  | zero=>intro s t h e _ hi;cases hi
  | succ n ih =>
   intro s t h e hR hi
   simp only[mL]at hi
   cases hb:body s with
   | none=>rw[hb]at hi;cases hi
   | some c =>
    rw[hb]at hi
    obtain⟨x,s1,h1,h2⟩:=KM _ _ _ _ _ (show PE T Γ N FU b t h e (LK Rel RelX c) from hstep s t h e hR c hb)
    simp only[iter,h1]
    cases x with
    | normal =>
     obtain⟨s',rfl,h4⟩:=h2
     exact ih s' s1.t s1.h s1.e h4 hi
    | exit m =>
     obtain⟨o,rfl,h4⟩:=h2
     simp only[af0]at hi
     subst hi
     exact⟨_,_,rfl,hexit _ _ _ _ h4⟩
    | ret =>
     obtain⟨o,rfl,h4⟩:=h2
     simp only[af0]at hi
     subst hi
     exact⟨_,_,rfl,hexit _ _ _ _ h4⟩
 exact key FU s0 t h e h0 hL
theorem yI {d:D} {g:Nat} {A B A' B':(Nat->D)->Prop} (hk:RW d t g A B) (h1:∀t,A t->A' t) (h2:∀t,B t->B' t):RW d t g A' B':=by
 cases d with
 | bool b=>exact⟨fun hb=>h1 _ (hk.1 hb),fun hb=>h2 _ (hk.2 hb)⟩
 | _=>exact hk
theorem E9 {d:D} {g:Nat} {A B S A' B' S':(Nat->D)->Prop} (hk:wpS d t g A B S) (h1:∀t,A t->A' t) (h2:∀t,B t->B' t) (h3:∀t,S t->S' t):wpS d t g A' B' S':=by
 unfold wpS at hk ⊢
 split at hk
 ·exact h3 _ hk
 ·exact yI hk h1 h2
theorem DY {α:Type} {x:Option α} {K K':α->Prop} (hk:ot x K) (h1:∀a,K a->K' a):ot x K':=by
 cases x with
 | none=>exact hk
 | some a=>exact h1 a hk
theorem PD {ops:List Oper} {gd:Option (Nat×Bool)} {A B A' B':(Nat->D)->Prop} (hk:wpG ops t gd A B) (h1:∀t,A t->A' t) (h2:∀t,B t->B' t):wpG ops t gd A' B':=by
 unfold wpG at hk ⊢
 split
 ·exact h1 _ hk
 ·rename_i j want
  refine DY hk fun g hg=>E9 hg ?_ ?_ h2
  ·intro t ht;cases want<;>simp_all
  ·intro t ht;cases want<;>simp_all
theorem yK {o:Oper} {K K':(Nat->D)->bu->Prop} (hk:PC T Γ e o t h K) (h1:∀t E,K t E->K' t E):PC T Γ e o t h K':=by
 unfold PC at hk ⊢
 split
 ·rename_i ho
  rw[ho]at hk
  exact yI hk (fun _ h=>h1 _ _ h) (fun _ h=>h1 _ _ h)
 ·rename_i hne
  split at hk
  ·rename_i c a b ho;exact absurd ho (hne _ _ _)
  ·exact DY hk (fun _ h=>h1 _ _ h)
theorem vr {ops:List Oper} {K K':(Nat->D)->(Nat->Option Row)->Prop} (h1:∀t h,K t h->K' t h):∀(l:List Oper) (t:Nat->D) (h:Nat->Option Row),EJ T Γ N e ops l t h K->EJ T Γ N e ops l t h K'
 | [],t,h,hk=>h1 _ _ hk
 | o::l,t,h,hk=>by
  unfold EJ at hk ⊢
  exact⟨hk.1,PD hk.2 (fun t ht=>yK ht fun t E hE=>vr h1 l _ _ hE) (fun t ht=>vr h1 l _ _ ht)⟩
theorem vl {ops:List Oper} {K K':(Nat->D)->(Nat->Option Row)->List ju->Prop} (h1:∀t h fs,K t h fs->K' t h fs):∀(l:List Oper) (t:Nat->D) (h:Nat->Option Row) (fs:List ju),runK T Γ N e ops l t h fs K->runK T Γ N e ops l t h fs K'
 | [],t,h,fs,hk=>h1 _ _ _ hk
 | o::l,t,h,fs,hk=>by
  unfold runK at hk ⊢
  exact⟨hk.1,PD hk.2 (fun t ht=>yK ht fun t E hE=>vl h1 l _ _ _ hE) (fun t ht=>vl h1 l _ _ _ ht)⟩
theorem aac {ops:Array Oper} {draw:Bool} {K K':(Nat->D)->(Nat->Option Row)->Prop} (hk:wpR T Γ N ops draw t h e K) (h1:∀t h,K t h->K' t h):wpR T Γ N ops draw t h e K':=by
 unfold wpR at hk ⊢
 cases draw with
 | true=>exact vl (fun t h fs hh=>⟨hh.1,h1 _ _ hh.2⟩) _ _ _ _ hk
 | false=>exact vr h1 _ _ _ hk
theorem Wj {F:Nat} : ∀(c:Code) (t:Nat->D) (h:Nat->Option Row) (e:Nat) (K K':Kt),PE T Γ N F c t h e K->(∀x t h e,K x t h e->K' x t h e)->PE T Γ N F c t h e K':=by
 intro c
 induction c with
 | skip=>intro t h e K K' hk hm;exact hm _ _ _ _ hk
 | region i ops draw=>intro t h e K K' hk hm;exact aac hk fun t h hh=>hm _ _ _ _ hh
 | seq a b iha ihb =>
  intro t h e K K' hk hm
  refine iha _ _ _ _ _ hk fun x t h e hx =>?_
  cases x with
  | normal=>exact ihb _ _ _ _ _ hx hm
  | exit n=>exact hm _ _ _ _ hx
  | ret=>exact hm _ _ _ _ hx
 | cond c x y ihx ihy =>
  intro t h e K K' hk hm
  unfold PE at hk ⊢
  cases c with
  | tmp g=>exact yI hk (fun t ht=>ihx _ _ _ _ _ ht hm) (fun t ht=>ihy _ _ _ _ _ ht hm)
  | const v =>
   cases v with
   | bool b =>
    cases b with
    | true=>exact ihx _ _ _ _ _ hk hm
    | false=>exact ihy _ _ _ _ _ hk hm
   | _=>exact hk
  | _=>exact hk
 | block id b ih =>
  intro t h e K K' hk hm
  refine ih _ _ _ _ _ hk fun x t h e hx =>?_
  cases x with
  | normal=>exact hm _ _ _ _ hx
  | ret=>exact hm _ _ _ _ hx
  | exit n =>
   unfold WV at hx ⊢
   simp only at hx ⊢
   split at hx
   ·rename_i hn;rw[if_pos hn];exact hm _ _ _ _ hx
   ·rename_i hn;rw[if_neg hn];exact hm _ _ _ _ hx
 | loop b ih =>
  intro t h e K K' hk hm
  obtain⟨x,s,h1,h2⟩:=hk
  exact⟨x,s,h1,hm _ _ _ _ h2⟩
 | exit id=>intro t h e K K' hk hm;exact hm _ _ _ _ hk
 | ret=>intro t h e K K' hk hm;exact hm _ _ _ _ hk
 | _=>intro t h e K K' hk;exact hk.elim
def CK {σ:Type} (J:σ->(Nat->D)->(Nat->Option Row)->Nat->Prop) (P:σ->Prop) (R:Kt):Kt:=fun x t h e =>
 match x with
 | .normal=>∃s,P s∧J s t h e
 | x=>R x t h e
theorem an {σ:Type} {J:σ->(Nat->D)->(Nat->Option Row)->Nat->Prop} {P:σ->Prop} {R:Kt} : CK J P R .normal t h e = ∃s,P s∧J s t h e:=aiu
end
section
variable {h:Nat->Option Row}
theorem Gy {k:IntKind} {n:Int} : canon (.int k n)=.int k n:=aiu
theorem Cl {b:Bool} : canon (.bool b)=.bool b:=aiu
theorem GA {b:ByteArray} : canon (.str b)=.str b:=aiu
theorem Ll {a b:Bool} {n:Nat} {xs:List D} : canon (.sl a b n xs)=.sl false false n xs:=aiu
theorem Ci {k:IntKind} {n:Int} : e8 (.int k n)=.int k n:=aiu
theorem zR {b:Bool} : e8 (.bool b)=.bool b:=aiu
theorem Ck {b:ByteArray} : e8 (.str b)=.str b:=aiu
theorem Gx {a b:Bool} {n:Nat} {xs:List D} : e8 (.sl a b n xs)=.sl false false n xs:=aiu
theorem Ch {xs:List D} : e8 (.agg xs)=.agg (xs.map canon):=aiu
def clB (x s o n:Nat):Option Row->Option (D×List Nat)
 | some r=>if o+n*s<=r.cells.length then some (.sl false false n ((r.cells.drop o).take (n*s)),[x]) else none
 | none=>none
theorem Lx {x s o n:Nat} {r:Row} : clB x s o n (some r)=if o+n*s<=r.cells.length then some (.sl false false n ((r.cells.drop o).take (n*s)),[x]) else none:=aiu
def clP (x o:Nat):Option Row->Option (D×List Nat)
 | some r=>if o<=r.cells.length then some (.ip (r.cells.drop o),[x]) else none
 | none=>none
theorem LH {x o:Nat} {r:Row} : clP x o (some r)=if o<=r.cells.length then some (.ip (r.cells.drop o),[x]) else none:=aiu
theorem Lt {k:IntKind} {n:Int} : bE h (.int k n)=some (.int k n,[]):=aiu
theorem GC {b:Bool} : bE h (.bool b)=some (.bool b,[]):=aiu
theorem Lw {b:ByteArray} : bE h (.str b)=some (.str b,[]):=aiu
theorem SK {a b:Bool} {n:Nat} {xs:List D} : bE h (.sl a b n xs)=some (.sl false false n xs,[]):=aiu
theorem Lp {xs:List D} : bE h (.agg xs)=some (.agg (xs.map canon),[]):=aiu
theorem SI {xs:List D} : bE h (.ip xs)=some (.ip xs,[]):=aiu
theorem SH {f:Nat} : bE h (.fn f)=some (.fn f,[]):=aiu
theorem Lr {x v s o n:Nat} : bE h (.buf x v s o n)=clB x s o n (live h x v):=by
 simp only[bE,aP,cZ]
 cases live h x v with
 | none=>rfl
 | some r=>by_cases hc:o+n*s<=r.cells.length<;>simp[clB,hc,canon]
theorem Lv {x v o:Nat} : bE h (.ptr x v o)=clP x o (live h x v):=by
 simp only[bE,aP]
 cases live h x v with
 | none=>rfl
 | some r=>simp only[clP]
theorem Xh {k:IntKind} {n:Int} : dY h (.int k n)=some ([.int k n],[]):=aiu
theorem SM {b:Bool} : dY h (.bool b)=some ([.bool b],[]):=aiu
theorem Xi {b:ByteArray} : dY h (.str b)=some ([.str b],[]):=aiu
theorem abl {a b:Bool} {n:Nat} {xs:List D} : dY h (.sl a b n xs)=some ([.sl a b n xs],[]):=aiu
theorem Xf {xs:List D} : dY h (.agg xs)=some (xs,[]):=aiu
def cvB:Option (D×List Nat)->Option (List D×List Nat)
 | some (d,fr)=>some ([d],fr)
 | none=>none
theorem LR {d:D} {fr:List Nat} : cvB (some (d,fr))=some ([d],fr):=aiu
theorem Xg {x v s o n:Nat} : dY h (.buf x v s o n)=cvB (clB x s o n (live h x v)):=by
 simp only[dY,cZ]
 cases live h x v with
 | none=>rfl
 | some r=>by_cases hc:o+n*s<=r.cells.length<;>simp[clB,cvB,hc]
def clF (h:Nat->Option Row):Option (D×List Nat)->Option bu
 | some (d,fr)=>some ⟨d,gP h fr⟩
 | none=>none
theorem LA {d:D} {fr:List Nat} : clF h (some (d,fr))=some ⟨d,gP h fr⟩:=aiu
theorem Sg {x v s o n:Nat} : gF h (.buf x v s o n)=clF h (clB x s o n (live h x v)):=by
 simp only[gF,nR,cZ]
 cases live h x v with
 | none=>rfl
 | some r=>by_cases hc:o+n*s<=r.cells.length<;>simp[clB,clF,hc,canon,e8]
variable {Γ:Env} {f g e:Nat} {l:Bool} {G:Option (D×Row)->List D->Option (RK×Option Row)} {lent:Option (D×Row)} {afM:List D} {dst:Option Nat} {fr:List Nat}
theorem Hm:(Am.ext Γ f l G).lends g=if g=f then l else Γ.lends g:=aiu
theorem S9:(Am.ext Γ f l G).sem g lent afM=if g=f then G lent afM else Γ.sem g lent afM:=aiu
theorem S8 {d:Nat} : (Am.ext Γ f l G).own d=Γ.own d:=aiu
theorem HY {d:Nat} : a7.own d=true:=aiu
theorem Nd {d i:Nat} : (Am.keep d Γ).own i=(i != d&&Γ.own i):=aiu
theorem Dv {d i:Nat} : (Am.keep d Γ).lends i=Γ.lends i:=aiu
theorem Nf {d i:Nat} : (Am.keep d Γ).sem i lent afM=Γ.sem i lent afM:=aiu
def Ba (lends:Bool) (Γ:Env) (h:Nat->Option Row) (e:Nat) (dst:Option Nat) (g:Nat) (args:List D):Option bu :=
 if lends then
  match args with
  | .buf x v s o n::rest=>nQ Γ h e dst g x v (.buf 0 0 s o n) rest
  | .ptr x v o::rest=>nQ Γ h e dst g x v (.ptr 0 0 o) rest
  | .mp x v::rest=>nQ Γ h e dst g x v (.mp 0 0) rest
  | _=>none
 else sQ Γ h e dst g args
def aas (p:Option (Nat×Nat×Nat)) (Γ:Env) (h:Nat->Option Row) (e:Nat) (dst:Option Nat) (g:Nat) (args:List D):Option bu :=
 match p with
 | some p=>rZ h e dst p args
 | none =>
  match Γ.grw g with
  | some p=>rY h p args
  | none=>Ba (Γ.lends g) Γ h e dst g args
def acb (p:Option Grow) (Γ:Env) (h:Nat->Option Row) (e:Nat) (dst:Option Nat) (g:Nat) (args:List D):Option bu :=
 match p with
 | some p=>rY h p args
 | none=>Ba (Γ.lends g) Γ h e dst g args
theorem Gq {args:List D} : aas none Γ h e dst g args=acb (Γ.grw g) Γ h e dst g args:=aiu
theorem Gm {args:List D} : acb none Γ h e dst g args=Ba (Γ.lends g) Γ h e dst g args:=aiu
theorem Gn {p:Grow} {args:List D} : acb (some p) Γ h e dst g args=rY h p args:=aiu
theorem S5 {f:Nat} {l:Bool} {G:Option (D×Row)->List D->Option (RK×Option Row)} : (Am.ext Γ f l G).grw g=Γ.grw g:=aiu
theorem Na {d:Nat} : (Am.keep d Γ).grw g=Γ.grw g:=aiu
theorem MW {d y:Nat} : (Am.vV d y Γ).grw g=Γ.grw g:=aiu
theorem M5 {f:Nat} {p:Nat×Nat×Nat} : (Am.Dr f p Γ).grw g=Γ.grw g:=aiu
theorem HU:a7.grw g=none:=aiu
theorem MQ {f:Nat} {p:Grow} : (Am.Dk f p Γ).grw g=if g=f then some p else Γ.grw g:=aiu
theorem MR {f:Nat} {p:Grow} : (Am.Dk f p Γ).ins g=Γ.ins g:=aiu
theorem Dl {f:Nat} {p:Grow} : (Am.Dk f p Γ).lends g=Γ.lends g:=aiu
theorem MU {f:Nat} {p:Grow} {l:Option (D×Row)} {afM:List D} : (Am.Dk f p Γ).sem g l afM=Γ.sem g l afM:=aiu
theorem MT {f:Nat} {p:Grow} {d:Nat} : (Am.Dk f p Γ).own d=Γ.own d:=aiu
theorem Hy {f:Nat} {p:Grow} {d:Nat} : (Am.Dk f p Γ).hint d=Γ.hint d:=aiu
def lvP (v:Nat):Option Row->Option (Row×Nat×Nat×Nat)
 | some r=>if r.v=v∧r.mp=true then (match r.cells with | [.ph y s n]=>some (r,y,s,n)|_=>none) else none
 | none=>none
theorem Nv {x v:Nat} : kp h x v=lvP v (h x):=by
 unfold kp lvP
 cases h x<;>rfl
theorem NH {v ty y s n:Nat} {fz lst:Bool} : lvP v (some ⟨v,ty,[.ph y s n],fz,lst,true⟩)=some (⟨v,ty,[.ph y s n],fz,lst,true⟩,y,s,n):=by simp[lvP]
def WZ (p:Grow) (y k:Nat) (rest:List D):Option (Row×Nat×Nat×Nat)->Option Row->Option bu
 | some (ry,k',s,n),some r =>
   if k'=k∧k=PK+y∧y<PK∧ry.fz=false∧r.mp=false∧r.fz=false∧r.lst=true∧s=p.k∧r.ty=p.ty∧r.cells.length=n*p.k∧(n+1)*p.bytes<=140737488355328 then
    match p.sem r.cells rest with
    | some cs=>some ⟨.int .i64 (n:Int),[(k,some ⟨r.v,p.ty,r.cells++cs,false,true,false⟩),(y,some ⟨ry.v,ry.ty,[.ph k p.k (n+1)],false,false,true⟩)]⟩
    | none=>none
   else none
 | _,_=>none
theorem Sy {p:Grow} {y v k:Nat} {rest:List D} : rY h p (.pm y v k::rest)=WZ p y k rest (kp h y v) (h k):=aiu
def abk (k y v ty e' ty' k' n:Nat) (cells:List D):Option (List D)->Option bu
 | some cs=>some ⟨.int .i64 (n:Int),[(k,some ⟨e',ty',cells++cs,false,true,false⟩),(y,some ⟨v,ty,[.ph k k' (n+1)],false,false,true⟩)]⟩
 | none=>none
theorem B7 {ty' k' by_:Nat} {sem:List D->List D->Option (List D)} {y k:Nat} {rest:List D} {v ty s n e' tyr:Nat} {cells:List D} : WZ ⟨ty',k',by_,sem⟩ y k rest (some (⟨v,ty,[.ph k s n],false,false,true⟩,k,s,n)) (some ⟨e',tyr,cells,false,true,false⟩) =
  if k=1000000+y∧y<1000000∧s=k'∧tyr=ty'∧cells.length=n*k'∧(n+1)*by_<=140737488355328 then abk k y v ty e' ty' k' n cells (sem cells rest) else none:=by
 simp only[WZ,PK,true_and]
 cases sem cells rest<;>rfl
theorem B8 {k y v ty e' ty' k' n:Nat} {cells cs:List D} : abk k y v ty e' ty' k' n cells (some cs)=some ⟨.int .i64 (n:Int),[(k,some ⟨e',ty',cells++cs,false,true,false⟩),(y,some ⟨v,ty,[.ph k k' (n+1)],false,false,true⟩)]⟩:=aiu
theorem Gr {p:Nat×Nat×Nat} {args:List D} : aas (some p) Γ h e dst g args=rZ h e dst p args:=aiu
theorem S6 {f:Nat} {l:Bool} {G:Option (D×Row)->List D->Option (RK×Option Row)} : (Am.ext Γ f l G).ins g=Γ.ins g:=aiu
theorem Nb {d:Nat} : (Am.keep d Γ).ins g=Γ.ins g:=aiu
theorem MX {d y:Nat} : (Am.vV d y Γ).ins g=Γ.ins g:=aiu
theorem HV:a7.ins g=none:=aiu
theorem M6 {f:Nat} {p:Nat×Nat×Nat} : (Am.Dr f p Γ).ins g=if g=f then some p else Γ.ins g:=aiu
theorem Dt {f:Nat} {p:Nat×Nat×Nat} : (Am.Dr f p Γ).lends g=Γ.lends g:=aiu
theorem M9 {f:Nat} {p:Nat×Nat×Nat} {l:Option (D×Row)} {afM:List D} : (Am.Dr f p Γ).sem g l afM=Γ.sem g l afM:=aiu
theorem M8 {f:Nat} {p:Nat×Nat×Nat} {d:Nat} : (Am.Dr f p Γ).own d=Γ.own d:=aiu
theorem HB {f:Nat} {p:Nat×Nat×Nat} {d:Nat} : (Am.Dr f p Γ).hint d=Γ.hint d:=aiu
def W0 (ty k by_ x y s s' o o' n m:Nat) (i:Int) (e:Nat) (d:Nat):Option Row->Option Row->Option bu
 | some r,some r' =>
   if r.fz=false∧r'.fz=false∧r.lst=true∧r'.lst=true∧x≠y∧s=k∧s'=k∧r.ty=ty∧r'.ty=ty∧o=0∧o'=0∧r.cells.length=n*k∧r'.cells.length=m*k∧0<=i∧i<=n∧0<m∧(n+m)*by_<=140737488355328 then
    some ⟨.buf d e k 0 (n+m),[(y,none),(x,none),(d,some ⟨e,ty,r.cells.take (i.toNat*k)++(r'.cells++r.cells.drop (i.toNat*k)),false,true,false⟩)]⟩
   else none
 | _,_=>none
theorem Sz {ty k by_ x v s o n y v' s' o' m d:Nat} {i:Int} : rZ h e (some d) (ty,k,by_) [.buf x v s o n,.int .i64 i,.buf y v' s' o' m]=W0 ty k by_ x y s s' o o' n m i e d (live h x v) (live h y v'):=by
 simp only[rZ,W0]
 cases live h x v with
 | none=>rfl
 | some r=>cases live h y v'<;>rfl
theorem B9 {ty k by_ x y s s' o o' n m : Nat} {i : Int} {d : Nat} {r r' : Row} : W0 ty k by_ x y s s' o o' n m i e d (some r) (some r') = if r.fz = false ∧ r'.fz = false ∧ r.lst = true ∧ r'.lst = true ∧ x ≠ y ∧ s = k ∧ s' = k ∧ r.ty = ty ∧ r'.ty = ty ∧ o = 0 ∧ o' = 0 ∧ r.cells.length = n * k ∧ r'.cells.length = m * k ∧ 0 <= i ∧ i <= n ∧ 0 < m ∧ (n + m) * by_ <= 140737488355328 then
        some ⟨.buf d e k 0 (n + m), [(y, none), (x, none), (d, some ⟨e, ty, r.cells.take (i.toNat * k) ++ (r'.cells ++ r.cells.drop (i.toNat * k)), false, true, false⟩)]⟩
      else none := Eq.trans rfl rfl
theorem SB {args:List D} : gB Γ h e dst (.fn g) args=aas (Γ.ins g) Γ h e dst g args:=by
 simp only[gB,aas,Ba]
 cases Γ.ins g with
 | none=>cases Γ.grw g<;>rfl
 | some p=>rfl
def US (h:Nat->Option Row) (e:Nat) (dst:Option Nat) (fr:List Nat):Option (RK×Option Row)->Option bu
 | some (.clean r,_)=>some ⟨r,if fK r then [] else gP h fr⟩
 | some (.fresh ty s n cells,_) =>
  match dst with
  | some d=>if fr.contains d=false then some ⟨.buf d e s 0 n,(if n9 cells then [] else gP h fr)++[(d,some ⟨e,ty,cells,false,true,false⟩)]⟩ else none
  | none=>none
 | _=>none
def aar (Γ:Env) (h:Nat->Option Row) (e:Nat) (dst:Option Nat) (g:Nat):Option (List D×List Nat)->Option bu
 | some (afM,fr)=>US h e dst fr (Γ.sem g none afM)
 | none=>none
theorem Gs {args:List D} : Ba false Γ h e dst g args=aar Γ h e dst g (bn h args):=by
 simp only[Ba,ags,if_false,sQ,aar]
 cases bn h args with
 | none=>rfl
 | some p =>
  obtain⟨afM,fr⟩:=p
  simp only
  cases hs:Γ.sem g none afM with
  | none=>rfl
  | some q =>
   obtain⟨rk,o⟩:=q
   cases rk<;>rfl
theorem Gl:aar Γ h e dst g (some (afM,fr))=US h e dst fr (Γ.sem g none afM):=aiu
def XP (h:Nat->Option Row) (fr:List Nat):Bool->List (Nat×Option Row)
 | true=>[]
 | false=>gP h fr
theorem Hw:XP h fr true=[]:=aiu
theorem C8:XP h fr false=gP h fr:=aiu
theorem My {b:Bool} : XP h [] b=[]:=by cases b<;>rfl
theorem Cd {r:D} {o:Option Row} : US h e dst fr (some (.clean r,o))=some ⟨r,XP h fr (fK r)⟩:=by
 simp only[US]
 cases fK r<;>rfl
theorem Ta:gP h []=[]:=aiu
theorem Mz {x:Nat} : gP h (x::fr)=(x,(h x).map pW)::gP h fr:=aiu
theorem XS {v ty:Nat} {cells:List D} {lst mp:Bool} : pW ⟨v,ty,cells,true,lst,mp⟩=⟨v,ty,cells,true,lst,mp⟩:=aiu
theorem XQ {v ty:Nat} {cells:List D} {lst mp:Bool} : pW ⟨v,ty,cells,false,lst,mp⟩=⟨v,ty,cells,true,true,mp⟩:=aiu
theorem GD:bn h []=some ([],[]):=aiu
def caC (p:Option (D×List Nat)) (q:Option (List D×List Nat)):Option (List D×List Nat) :=
 match p,q with
 | some (d',fr),some (ds',fr')=>some (d'::ds',fr++fr')
 | _,_=>none
theorem K8 {d:D} {fr fr':List Nat} {ds:List D} : caC (some (d,fr)) (some (ds,fr'))=some (d::ds,fr++fr'):=aiu
theorem Cm {d:D} {ds:List D} : bn h (d::ds)=caC (bE h d) (bn h ds):=by
 simp only[bn]
 cases bE h d with
 | none=>rfl
 | some p=>cases bn h ds<;>rfl
variable {T:Nat->Option Ty} {s:St} {rs:List ResultVar} {r:ResultVar}
theorem OS:rP T s []=some ([],[]):=aiu
theorem Iy:rP T s (r::rs)=caC (OQ T s r) (rP T s rs):=by
 simp only[rP]
 cases OQ T s r with
 | none=>rfl
 | some p=>cases rP T s rs<;>rfl
theorem OR {t:Nat->D} {i:Nat} : OQ T ⟨t,h,e⟩ (.tmp i)=bE h (t i):=aiu
def acF (T:Nat->Option Ty) (h:Nat->Option Row) (d:D) (τ:Option Ty):Option (D×List Nat) :=
 match τ,d with
 | some τ,.ptr x v o=>match di τ h (.ptr x v o) with|some E=>some (e8 E.val,[])|none=>none
 | _,_=>none
theorem Iw {t:Nat->D} {i ty:Nat} : OQ T ⟨t,h,e⟩ (.cell i ty)=acF T h (t i) (T ty):=aiu
def acG:Option bu->Option (D×List Nat)
 | some E=>some (e8 E.val,[])
 | none=>none
theorem Ix {d:D} {w:List (Nat×Option Row)} : acG (some ⟨d,w⟩)=some (e8 d,[]):=aiu
theorem OP {τ:Ty} {x v o:Nat} : acF T h (.ptr x v o) (some τ)=acG (di τ h (.ptr x v o)):=by
 simp only[acF,acG]
def acg (p:Option (List D×List Nat)):Option (RK×Option Row) :=
 match p with
 | some (ds,_)=>some (.clean (kh ds),none)
 | none=>none
theorem G7 {ds:List D} {fr:List Nat} : acg (some (ds,fr))=some (.clean (kh ds),none):=aiu
theorem CY:eR .clean T none rs s=acg (rP T s rs):=by
 simp only[eR,n5,ja,Yy,acg]
 cases rP T s rs<;>rfl
theorem Ce {ty sz n d:Nat} {cells:List D} {o:Option Row} : US h e (some d) fr (some (.fresh ty sz n cells,o))=if fr.contains d=false then some ⟨.buf d e sz 0 n,XP h fr (n9 cells)++[(d,some ⟨e,ty,cells,false,true,false⟩)]⟩ else none:=by
 simp only[US]
 cases n9 cells<;>rfl
theorem y8 {k:IntKind} : ∀l:List Int,n9 (ab (eI k) l)=true
 | []=>rfl
 | x::l=>by
  have:=y8 (k:=k) l
  simp only[bo,xr,List.cons_append,List.nil_append,n9,fK,this,Bool.and_self]
theorem CZ {ty sz i:Nat} {t:Nat->D} : eR (.fresh ty sz) T none [.tmp i] ⟨t,h,e⟩=lz ty sz h (t i):=aiu
theorem C1 {i:Nat} {t:Nat->D} : eR .tight T none [.tmp i] ⟨t,h,e⟩=uC (t i):=aiu
theorem XJ {nl tg:Bool} {n:Nat} {xs:List D} : uC (.sl nl tg n xs)=some (.clean (.sl nl tg n xs),none):=aiu
theorem SX {ty sz x v o n:Nat} : lz ty sz h (.buf x v sz o n)=uB ty sz o n (live h x v):=by simp[lz]
theorem XE {ty sz:Nat} {nl tg:Bool} {xs:List D} : lz ty sz h (.sl nl tg 0 xs)=if tg=true then some (.fresh ty sz 0 [],none) else none:=aiu
theorem Me {ty sz o n:Nat} {r:Row} : uB ty sz o n (some r)=if r.fz=false∧r.ty=ty∧o+n*sz<=r.cells.length then some (.fresh ty sz n ((r.cells.drop o).take (n*sz)),none) else none:=aiu
theorem EB {d:D} : kh [d]=d:=aiu
theorem EC {d d':D} {ds:List D} : kh (d::d'::ds)=.tup (d::d'::ds):=aiu
end
theorem SU (k:IntKind):(eI k).size=1:=aiu
theorem CJ:gN.size=1:=aiu
theorem G4:ace.size=1:=aiu
theorem Md {α:Type} (e:ij α):(lf e).size=1:=aiu
section
variable {α:Type} (E:ij α) {l m:List α} {x x' z:α} {i a b n c:Int} {B:Nat}
theorem JY (h:P.idx l i=some x):0<=i∧i<l.length:=by
 unfold P.idx at h
 split at h
 ·assumption
 ·cases h
theorem X0 (h:P.idx l i=some x):l[i.toNat]? = some x:=by
 unfold P.idx at h
 split at h
 ·exact h
 ·cases h
theorem BE (h:P.idx l i=some x):(ab E l).drop (i.toNat*E.size)=E.cells x++ab E (l.drop (i.toNat+1)):=by
 have h':=X0 h
 obtain⟨hi,rfl⟩:=agl.1 h'
 rw[uA,ahM hi]
 rfl
theorem rv (h:P.idx l i=some x):i.toNat*E.size+E.size<=l.length*E.size:=by
 have h':=JY h
 have:i.toNat+1<=l.length:=by omega
 have:=agE E.size this
 rwa [agO]at this
theorem bm (h:P.idx l i=some x):(0<=i∧i<l.length)∧(ab E l).drop (i.toNat*E.size)=E.cells x++ab E (l.drop (i.toNat+1))∧i.toNat*E.size+E.size<=l.length*E.size:=⟨JY h,BE E h,rv E h⟩
theorem YV:∀(l:List α) (i:Nat) (x:α),l[i]? = some x->∀x',ab E (l.set i x')=(ab E l).take (i*E.size)++E.cells x'++(ab E l).drop (i*E.size+E.size)
 | [],i,x,h,x'=>by simp at h
 | y::l,0,x,h,x'=>by
  rw[List.set_cons_zero,bo,bo,Nat.zero_mul,ahN,ahA,agF,ahC,E.len,ag3,ahj,ahD (by rw[E.len];exact afR _),ahA]
 | y::l,i+1,x,h,x'=>by
  have ih:=YV l i x (by simpa using h) x'
  rw[List.set_cons_succ,bo,bo,ih,agO]
  have hy:=E.len y
  have e1:(E.cells y++ab E l).take (i*E.size+E.size)=E.cells y++(ab E l).take (i*E.size):=by rw[ahg,hy,ahi (by omega),ahE]
  have e2:(E.cells y++ab E l).drop (i*E.size+E.size+E.size)=(ab E l).drop (i*E.size+E.size):=by
   rw[ahC,hy,ahD (by omega),ahA,ahE]
  rw[e1,e2]
  simp only[ahd]
theorem eZ (fo:Nat) (cs:List D) (h:P.idx l i=some x) (hc:E.cells x'=putCells (E.cells x) fo cs) (hfo:fo+cs.length<=E.size):putCells (ab E l) (i.toNat*E.size+fo) cs=ab E (l.set i.toNat x'):=by
 have h':=X0 h
 rw[YV E l i.toNat x h' x',hc]
 have he:=BE E h
 have hf:=rv E h
 have hl:=bx E l
 have hx:=E.len x
 have hsplit:ab E l=(ab E l).take (i.toNat*E.size)++(E.cells x++(ab E l).drop (i.toNat*E.size+E.size)):=by
  have h1:=ahG (i.toNat*E.size) (ab E l)
  have h2:(ab E l).drop (i.toNat*E.size+E.size)=ab E (l.drop (i.toNat+1)):=by
   rw[<- ahF,he,ahC,hx,ag3,ahj,ahD (by omega),ahA]
  rw[h2,<- he,h1]
 generalize (ab E l).drop (i.toNat*E.size+E.size)=r at *
 generalize ht:(ab E l).take (i.toNat*E.size)=p at *
 have hp:p.length=i.toNat*E.size:=by rw[<- ht];simp;omega
 unfold putCells
 rw[hsplit]
 have e1:(p++(E.cells x++r)).take (i.toNat*E.size+fo)=p++(E.cells x).take fo:=by
  rw[ahg,hp,ahi (by omega),ahf,ahh (by omega)]
 have e2:(p++(E.cells x++r)).drop (i.toNat*E.size+fo+cs.length)=(E.cells x).drop (fo+cs.length)++r:=by
  rw[agc,ahC,hp,ahD (by omega),ahf,ahA,ahe (by omega)]
 rw[e1,e2]
 simp only[ahd]
theorem YO (h:P.idx l i=some x):putCells (ab E l) (i.toNat*E.size) (E.cells x')=ab E (l.set i.toNat x'):=by
 have:=eZ E (x':=x') 0 (E.cells x') h (by unfold putCells;simp[E.len]) (by rw[E.len];omega)
 simpa using this
theorem Yp (h:FJ B n c z=some m):m=List.replicate n.toNat z∧0<=n∧n<=c∧c<=maxLen∧c.toNat*B<=140737488355328:=by
 unfold FJ at h
 split at h
 ·cases h;exact⟨rfl,by assumption⟩
 ·cases h
theorem mk_one (h:FJ B n n z=some m):0<=n∧n.toNat=m.length∧m.length<=maxLen∧lG m.length (E.cells z)=ab E m∧m.length*B<=140737488355328:=by
 obtain⟨rfl,h1,_,h3,h4⟩:=Yp h
 refine⟨h1,by simp,by simp;omega,by rw[Mh];simp,by simpa using h4⟩
theorem zu (h:Bv l a b=some m):0<=a∧0<=b∧a.toNat<=b.toNat∧b.toNat<=l.length∧b.toNat-a.toNat=m.length∧(List.take (m.length*E.size) (List.drop (a.toNat*E.size) (ab E l))=ab E m):=by
 unfold Bv at h
 split at h
 ·rename_i hc
  cases h
  have hl:((l.drop a.toNat).take (b.toNat-a.toNat)).length=b.toNat-a.toNat:=by simp;omega
  refine⟨hc.1,by omega,by omega,by omega,hl.symm,?_⟩
  rw[hl,uA,eW]
 ·cases h
theorem acL (h:Bv l a b=some m):0<=a∧0<=b∧(a.toNat<=b.toNat∧b.toNat<=l.length)∧b.toNat-a.toNat=m.length∧(List.take (m.length*E.size) (List.drop (a.toNat*E.size) (ab E l))=ab E m):=by
 obtain⟨h1,h2,h3,h4,h5,h6⟩:=zu E h
 exact⟨h1,h2,⟨h3,h4⟩,h5,h6⟩
theorem Y0 (h:Bv l a (l.length:Int)=some m):0<=a∧0<=a∧a.toNat<=l.length∧l.length-a.toNat=m.length∧(List.take (m.length*E.size) (List.drop (a.toNat*E.size) (ab E l))=ab E m):=by
 obtain⟨h1,h2,h3,h4,h5,h6⟩:=zu E h
 simp only[Int.toNat_natCast]at h3 h5
 exact⟨h1,h1,h3,h5,h6⟩
theorem Kx (h:Bv l 0 b=some m):0<=b∧0<=b∧m.length<=l.length∧b.toNat=m.length∧(List.take (m.length*E.size) (ab E l)=ab E m):=by
 obtain⟨h1,h2,h3,h4,h5,h6⟩:=zu E h
 have h5':b.toNat=m.length:=by simpa using h5
 refine⟨h2,h2,by omega,h5',by simpa using h6⟩
theorem yZ {n:List α} (h:lu B l m=some n):n=l++m∧n.length<=maxLen∧n.length*B<=140737488355328:=by
 unfold lu at h
 split at h
 ·rename_i hc
  cases h
  exact⟨rfl,by rw[ag1];exact hc.1,by rw[ag1];exact hc.2⟩
 ·cases h
theorem gV {n:List α} (h:lu B l [x]=some n):l.length+1=n.length∧ab E l++E.cells x=ab E n∧n.length<=maxLen∧n.length*B<=140737488355328:=by
 obtain⟨rfl,h1,h2⟩:=yZ h
 exact⟨by simp,by rw[iI];simp[ab],h1,h2⟩
theorem Bx {n:List α} (h:lu B [] l=some n):n=l∧l.length<=maxLen∧l.length*B<=140737488355328:=by
 obtain⟨rfl,h1,h2⟩:=yZ h
 exact⟨rfl,h1,h2⟩
theorem aal {n:List α} (h:lu B l m=some n):l.length+m.length=n.length∧ab E l++ab E m=ab E n∧n.length<=maxLen∧n.length*B<=140737488355328:=by
 obtain⟨rfl,h1,h2⟩:=yZ h
 exact⟨by simp,by rw[iI],h1,h2⟩
end
theorem qU {k:IntKind} {x y z:Int} (h:Ct k x y=some z):¬y=0∧k.wrap (x.tdiv y)=z:=by
 unfold Ct at h
 split at h
 ·cases h
 ·cases h;exact⟨by assumption,rfl⟩
theorem xS {k:IntKind} {x y z:Int} (h:J9 k x y=some z):¬y=0∧x.tmod y=z:=by
 unfold J9 at h
 split at h
 ·cases h
 ·cases h;exact⟨by assumption,rfl⟩
theorem BK {k:IntKind} {x y z:Int} (h:FT k x y=some z):¬y<0∧k.wrap (x*2 ^ (min y.toNat k.bits))=z:=by
 unfold FT at h
 split at h
 ·cases h
 ·cases h;exact⟨by assumption,rfl⟩
theorem lY {k:IntKind} {x y z:Int} (h:sA k x y=some z):¬y<0∧x.fdiv (2 ^ (min y.toNat k.bits))=z:=by
 unfold sA at h
 split at h
 ·cases h
 ·cases h;exact⟨by assumption,rfl⟩
theorem Sw (op:BinOp) (k:IntKind) (x y:Int):B4 op k x y=gn op k x y:=aiu
theorem pq.emp {P:Program} {f:FuncId} {rk:RK} {out:Option Row} (h1:pq P f none [.sl true true 0 []] rk out) (h2:pq P f none [.sl true false 0 []] rk out):pq P f none [.sl false false 0 []] rk out:=by
 intro w M vs hM ha
 have hd:=ha.2 0 _ rfl
 generalize hu:vs.getD 0 undef=u at hd
 cases hd with
 | sl A c nl tight n xs us k1 k2 k3 k4 k5 k6 k7 k8 =>
  cases A with
  | none =>
   refine h1 w M vs hM ⟨ha.1,fun j d hj =>?_,ha.tab⟩
   cases j with
   | zero=>cases hj;rw[hu];exact .sl none c true true 0 [] us k1 k2 (fun _=>⟨fun _=>⟨rfl,(k4 rfl).2⟩,fun h=>by cases h⟩) k4 (fun _=>(k4 rfl).2) k6 k7 k8
   | succ j=>simp at hj
  | some A =>
   refine h2 w M vs hM ⟨ha.1,fun j d hj =>?_,ha.tab⟩
   cases j with
   | zero=>cases hj;rw[hu];exact .sl (some A) c true false 0 [] us k1 k2 (fun _=>⟨(fun h=>by cases h),fun _ h=>by cases h⟩) k4 (fun h=>by cases h) k6 k7 k8
   | succ j=>simp at hj
theorem bP.adH {P:Program} {T:Nat->Option Ty} {Γ:Env} (hT:gz P T) (hΓ:bA P Γ) (hm:P.follows .mixedOrders=true) {α β:Type} {E:ij α} {F:List α->Option β} {R:β->RK} {mode:Mode} {f:FuncId} {fn:Func} (hf:P.funcs[f]? = some fn) (hok:(match fn.body with|some c=>codeOk c|none=>true)=true)
  (hc:(fn.name == "runtime.NumGoroutine")=false∧fn.body.isNone=false) (hn:1<=fn.ntmps)
  (h0:∀r,F []=some r->aW mode T Γ FU fn none [.sl true true 0 []]=some (R r,none))
  (h1:∀r,F []=some r->aW mode T Γ FU fn none [.sl true false 0 []]=some (R r,none))
  (h2:∀l r,0<l.length->F l=some r->aW mode T Γ FU fn none [.sl false false l.length (ab E l)]=some (R r,none)):bP P f (fb (eU (pE E)) F R) where
 calls lent afM rk out hg:=by
  obtain⟨rfl,rfl,l,r,rfl,hr,rfl⟩:=pZ hg
  cases l with
  | nil=>exact pq.emp (iT hT hΓ hm hf hok hn rfl (h0 r hr)) (iT hT hΓ hm hf hok hn rfl (h1 r hr))
  | cons x l=>exact iT hT hΓ hm hf hok hn rfl (h2 (x::l) r (by simp) hr)
 callable:=⟨fn,hf,hc⟩
theorem ab6 {w:World} {M:Nat->Prop} {k:IntKind} {n:Int} {u:Value} (h:RP w M (.int k n) u):u=.int k n:=by cases h;rfl
theorem Z5 {vs:Array Value} (h:vs.size=1):vs = #[vs.getD 0 undef]:=by
 apply Array.ext
 ·simp[h]
 ·intro i h1 h2
  have:i=0:=by omega
  subst this
  simp[ag2 h1]
theorem vm1:type_of% (ai @Jo<|ai @B6<|ai @IE<|ai @OX<|ai @OW<|ai @IC<|ai @EK<|ai @ID<|ai @aU<|ai @tQ<|ai @sh<|ai @bd<|ai @wa<|ai @AY<|ai @EO<|ai @IB<|ai @I6<|ai @EZ<|ai @OU<|ai @Iz<|ai @EG<|ai @I7<|ai @E1<|ai @E2<|ai @A8<|ai @OV<|ai @IA<|ai @EI<|ai @I8<|ai @E4<|ai @E5<|ai @A9<|ai @Pc<|ai @Pm<|ai @TZ<|ai @T4<|ai @El<|ai @AK<|ai @Em<|ai @AL<|ai @LY<|ai @L4<|ai @LX<|ai @L3<|ai @Cu<|ai @Cx<|ai @GK<|ai @GS<|ai @LZ<|ai @L5<|ai @LV<|@L1):=⟨@Jo,@B6,@IE,@OX,@OW,@IC,@EK,@ID,@aU,@tQ,@sh,@bd,@wa,@AY,@EO,@IB,@I6,@EZ,@OU,@Iz,@EG,@I7,@E1,@E2,@A8,@OV,@IA,@EI,@I8,@E4,@E5,@A9,@Pc,@Pm,@TZ,@T4,@El,@AK,@Em,@AL,@LY,@L4,@LX,@L3,@Cu,@Cx,@GK,@GS,@LZ,@L5,@LV,@L1⟩
theorem vm2:type_of% (ai @GQ<|ai @GZ<|ai @xm<|ai @xp<|ai @vJ<|ai @vN<|ai @GM<|ai @GV<|ai @vK<|ai @vO<|ai @GN<|ai @GW<|ai @GO<|ai @GX<|ai @GL<|ai @GU<|ai @s3<|ai @s4<|ai @vL<|ai @vP<|ai @GJ<|ai @GR<|ai @SP<|ai @SQ<|ai @zV<|ai @zZ<|ai @zW<|ai @z6<|ai @LU<|ai @L0<|ai @zU<|ai @zY<|ai @Oq<|ai @OE<|ai @Gi<|ai @zJ<|ai @GG<|ai @Mr<|ai @CG<|ai @CF<|ai @Dn<|ai @Dm<|ai @b7<|ai @An<|ai @b5<|ai @rB<|ai @UA<|ai @K2<|ai @F9<|ai @F8<|ai @H2<|@Ho):=⟨@GQ,@GZ,@xm,@xp,@vJ,@vN,@GM,@GV,@vK,@vO,@GN,@GW,@GO,@GX,@GL,@GU,@s3,@s4,@vL,@vP,@GJ,@GR,@SP,@SQ,@zV,@zZ,@zW,@z6,@LU,@L0,@zU,@zY,@Oq,@OE,@Gi,@zJ,@GG,@Mr,@CG,@CF,@Dn,@Dm,@b7,@An,@b5,@rB,@UA,@K2,@F9,@F8,@H2,@Ho⟩
theorem vm3:type_of% (ai @Hp<|ai @A2<|ai @EY<|ai @EX<|ai @A7<|ai @tU<|ai @sj<|ai @A4<|ai @sk<|ai @A5<|ai @sn<|ai @A1<|ai @I5<|ai @we<|ai @wg<|ai @A3<|ai @qn<|ai @A6<|ai @EW<|ai @wc<|ai @yE<|ai @TC<|ai @Oa<|ai @Iv<|ai @Iu<|ai @HI<|ai @Sm<|ai @K3<|ai @Sr<|ai @WS<|ai @Sq<|ai @WN<|ai @Sk<|ai @Ss<|ai @WM<|ai @By<|ai @Su<|ai @Sl<|ai @Gc<|ai @B2<|ai @Sp<|ai @Gd<|ai @Gy<|ai @Cl<|ai @GA<|ai @Ll<|ai @Ci<|ai @zR<|ai @Ck<|ai @Gx<|ai @Ch<|@Lx):=⟨@Hp,@A2,@EY,@EX,@A7,@tU,@sj,@A4,@sk,@A5,@sn,@A1,@I5,@we,@wg,@A3,@qn,@A6,@EW,@wc,@yE,@TC,@Oa,@Iv,@Iu,@HI,@Sm,@K3,@Sr,@WS,@Sq,@WN,@Sk,@Ss,@WM,@By,@Su,@Sl,@Gc,@B2,@Sp,@Gd,@Gy,@Cl,@GA,@Ll,@Ci,@zR,@Ck,@Gx,@Ch,@Lx⟩
theorem vm4:type_of% (ai @LH<|ai @Lt<|ai @GC<|ai @Lw<|ai @SK<|ai @Lp<|ai @SI<|ai @SH<|ai @Lr<|ai @Lv<|ai @Xh<|ai @SM<|ai @Xi<|ai @abl<|ai @Xf<|ai @Xg<|ai @LR<|ai @Hm<|ai @S9<|ai @SB<|ai @Gs<|ai @Gl<|ai @Cd<|ai @Hw<|ai @C8<|ai @My<|ai @Ta<|ai @Mz<|ai @GD<|ai @Cm<|ai @K8<|ai @OS<|ai @Iy<|ai @OR<|ai @Iw<|ai @OP<|ai @Ix<|ai @CY<|ai @G7<|ai @Ce<|ai @y8<|ai @CZ<|ai @C1<|ai @XJ<|ai @SX<|ai @XE<|ai @Me<|ai @EB<|ai @EC<|ai @Sw<|ai @xB<|@bo):=⟨@LH,@Lt,@GC,@Lw,@SK,@Lp,@SI,@SH,@Lr,@Lv,@Xh,@SM,@Xi,@abl,@Xf,@Xg,@LR,@Hm,@S9,@SB,@Gs,@Gl,@Cd,@Hw,@C8,@My,@Ta,@Mz,@GD,@Cm,@K8,@OS,@Iy,@OR,@Iw,@OP,@Ix,@CY,@G7,@Ce,@y8,@CZ,@C1,@XJ,@SX,@XE,@Me,@EB,@EC,@Sw,@xB,@bo⟩
theorem vmk:type_of% (And.intro (@Pt)<|@Pu):=⟨@Pt,@Pu⟩
theorem vmc:type_of% (ai @true_and<|ai @and_true<|ai @ags<|ai @afX<|ai @agG<|ai @ahK<|ai @ahj<|ai @ahL<|ai @ahN<|ai @agi<|ai @agj<|ai @List.contains_nil.{0}<|ai @ahA<|ai @ahJ<|ai @ahI<|ai @agh<|ai @agZ<|ai @decide_true<|ai @decide_false<|ai @beq_self_eq_true.{0}<|ai @List.isEmpty_nil.{0}<|ai @List.isEmpty_cons.{0}<|ai @Option.map_none.{0,0}<|ai @afZ<|ai @agV<|ai @List.all_nil.{0}<|ai @Option.isSome_some.{0}<|ai @Bool.and_true<|ai @ahl<|ai @ahO<|ai @Bool.and_self<|ai @ahk<|ai @ahP<|ai @and_self<|ai @agF<|ai @agr<|ai @Nat.zero_mul<|ai @Nat.sub_zero<|ai @afS<|ai @afR<|ai @af0<|ai @Nat.le_zero_eq<|ai @ahQ<|ai @Bool.or_self<|ai @Bool.or_true<|ai @Bool.true_or<|ai @Bool.or_false<|ai @agU<|@ahR):=⟨@true_and,@and_true,@ags,@afX,@agG,@ahK,@ahj,@ahL,@ahN,@agi,@agj,@List.contains_nil.{0},@ahA,@ahJ,@ahI,@agh,@agZ,@decide_true,@decide_false,@beq_self_eq_true.{0},@List.isEmpty_nil.{0},@List.isEmpty_cons.{0},@Option.map_none.{0,0},@afZ,@agV,@List.all_nil.{0},@Option.isSome_some.{0},@Bool.and_true,@ahl,@ahO,@Bool.and_self,@ahk,@ahP,@and_self,@agF,@agr,@Nat.zero_mul,@Nat.sub_zero,@afS,@afR,@af0,@Nat.le_zero_eq,@ahQ,@Bool.or_self,@Bool.or_true,@Bool.true_or,@Bool.or_false,@agU,@ahR⟩
theorem vm5:type_of% (ai @EM<|ai @EL<|ai @abj<|ai @Ge<|ai @B3<|ai @Sh<|ai @KW<|ai @Si<|ai @WA<|ai @Sf<|ai @Sg<|ai @LA<|ai @S8<|ai @HY<|ai @Nd<|ai @Dv<|@Nf):=⟨@EM,@EL,@abj,@Ge,@B3,@Sh,@KW,@Si,@WA,@Sf,@Sg,@LA,@S8,@HY,@Nd,@Dv,@Nf⟩
theorem vmu:type_of% (ai @wK.eq_1<|ai @wK.eq_2<|ai @ev.eq_1<|ai @ev.eq_2<|ai @ev.eq_3<|ai @ev.eq_4<|ai @lh.eq_1<|ai @lh.eq_2<|ai @lh.eq_3<|ai @lh.eq_4<|ai @lh.eq_5<|ai @lh.eq_6<|ai @dV.eq_1<|ai @dV.eq_2<|ai @y4.eq_1<|ai @y4.eq_2<|ai @y4.eq_3<|ai @jV.eq_1<|ai @jV.eq_2<|ai @jV.eq_3<|ai @fm.eq_1<|ai @fm.eq_2<|ai @fm.eq_3<|ai @fm.eq_4<|ai @fm.eq_5<|ai @fm.eq_6<|ai @fm.eq_7<|ai @fm.eq_8<|ai @fm.eq_9<|ai @fm.eq_10<|ai @fm.eq_11<|ai @fm.eq_12<|ai @fm.eq_13<|ai @fm.eq_14<|ai @fm.eq_15<|ai @fm.eq_16<|ai @FZ.eq_1<|ai @FZ.eq_2<|ai @FZ.eq_3<|ai @FZ.eq_4<|ai @FZ.eq_5<|ai @FZ.eq_6<|ai @aaO.eq_1<|ai @aH.eq_1<|ai @aH.eq_2<|ai @dD.eq_1<|ai @dD.eq_2<|ai @dD.eq_3<|ai @di.eq_1<|ai @di.eq_2<|ai @di.eq_3<|ai @live.eq_1<|ai @iL.eq_1<|ai @iL.eq_2<|ai @Ds.nn.eq_1<|ai @Ds.nn.eq_2<|ai @Ds.nn.eq_3<|ai @b8.eq_1<|ai @b8.eq_2<|ai @b8.eq_3<|ai @b8.eq_4<|ai @b8.eq_5<|ai @b8.eq_6<|ai @fK.eq_1<|ai @fK.eq_2<|ai @fK.eq_3<|ai @fK.eq_4<|ai @fK.eq_5<|ai @fK.eq_6<|ai @n9.eq_1<|ai @n9.eq_2<|ai @xN.eq_1<|ai @xN.eq_2<|ai @xN.eq_3<|ai @xN.eq_4<|ai @alive.eq_1<|ai @alive.eq_2<|ai @alive.eq_3<|ai @nm.eq_1<|ai @nm.eq_2<|ai @fS.eq_1<|ai @fS.eq_2<|ai @fS.eq_3<|ai @fS.eq_4<|ai @fS.eq_5<|ai @fS.eq_6<|ai @cB.eq_1<|ai @cB.eq_2<|ai @pj.eq_1<|ai @iH.eq_1<|ai @iH.eq_2<|ai @iH.eq_3<|ai @kO.eq_1<|ai @kO.eq_2<|ai @Ic.eq_1<|ai @bD.eq_1<|ai @bD.eq_2<|ai @bD.eq_3<|ai @bD.eq_4<|ai @fC.eq_1<|ai @fC.eq_2<|ai @fC.eq_3<|ai @cv.eq_1<|ai @cv.eq_2<|ai @cv.eq_3<|ai @cv.eq_4<|ai @cv.eq_5<|ai @cv.eq_6<|ai @ey.eq_1<|ai @gO.eq_1<|ai @gO.eq_2<|ai @fieldAt.eq_1<|ai @dC.eq_1<|ai @oQ.eq_1<|ai @ik.eq_1<|ai @content.eq_1<|ai @content.eq_2<|ai @content.eq_3<|ai @putCells.eq_1<|ai @Wn.eq_1<|ai @Wn.eq_2<|ai @Wn.eq_3<|ai @Wn.eq_4<|ai @PH.eq_1<|ai @PH.eq_2<|ai @PH.eq_3<|ai @PH.eq_4<|ai @S3.eq_1<|ai @S3.eq_2<|ai @S3.eq_3<|ai @eC.eq_1<|ai @eC.eq_2<|ai @eC.eq_3<|ai @kindOk.eq_1<|ai @kindOk.eq_2<|ai @kindOk.eq_3<|ai @kindOk.eq_4<|ai @jM.eq_1<|ai @jM.eq_2<|ai @jM.eq_3<|ai @jM.eq_4<|ai @mA.eq_1<|ai @mA.eq_2<|ai @mA.eq_3<|ai @mA.eq_4<|ai @mA.eq_5<|ai @mA.eq_6<|ai @mA.eq_7<|ai @mA.eq_8<|ai @rU.eq_1<|ai @rU.eq_2<|ai @rU.eq_3<|ai @aS.eq_1<|ai @aS.eq_2<|ai @aS.eq_3<|ai @aS.eq_4<|ai @aS.eq_5<|ai @aS.eq_6<|ai @aS.eq_7<|ai @mq.eq_1<|ai @mq.eq_2<|ai @sP.eq_1<|ai @sP.eq_2<|ai @sP.eq_3<|@sP.eq_4):=⟨@wK.eq_1,@wK.eq_2,@ev.eq_1,@ev.eq_2,@ev.eq_3,@ev.eq_4,@lh.eq_1,@lh.eq_2,@lh.eq_3,@lh.eq_4,@lh.eq_5,@lh.eq_6,@dV.eq_1,@dV.eq_2,@y4.eq_1,@y4.eq_2,@y4.eq_3,@jV.eq_1,@jV.eq_2,@jV.eq_3,@fm.eq_1,@fm.eq_2,@fm.eq_3,@fm.eq_4,@fm.eq_5,@fm.eq_6,@fm.eq_7,@fm.eq_8,@fm.eq_9,@fm.eq_10,@fm.eq_11,@fm.eq_12,@fm.eq_13,@fm.eq_14,@fm.eq_15,@fm.eq_16,@FZ.eq_1,@FZ.eq_2,@FZ.eq_3,@FZ.eq_4,@FZ.eq_5,@FZ.eq_6,@aaO.eq_1,@aH.eq_1,@aH.eq_2,@dD.eq_1,@dD.eq_2,@dD.eq_3,@di.eq_1,@di.eq_2,@di.eq_3,@live.eq_1,@iL.eq_1,@iL.eq_2,@Ds.nn.eq_1,@Ds.nn.eq_2,@Ds.nn.eq_3,@b8.eq_1,@b8.eq_2,@b8.eq_3,@b8.eq_4,@b8.eq_5,@b8.eq_6,@fK.eq_1,@fK.eq_2,@fK.eq_3,@fK.eq_4,@fK.eq_5,@fK.eq_6,@n9.eq_1,@n9.eq_2,@xN.eq_1,@xN.eq_2,@xN.eq_3,@xN.eq_4,@alive.eq_1,@alive.eq_2,@alive.eq_3,@nm.eq_1,@nm.eq_2,@fS.eq_1,@fS.eq_2,@fS.eq_3,@fS.eq_4,@fS.eq_5,@fS.eq_6,@cB.eq_1,@cB.eq_2,@pj.eq_1,@iH.eq_1,@iH.eq_2,@iH.eq_3,@kO.eq_1,@kO.eq_2,@Ic.eq_1,@bD.eq_1,@bD.eq_2,@bD.eq_3,@bD.eq_4,@fC.eq_1,@fC.eq_2,@fC.eq_3,@cv.eq_1,@cv.eq_2,@cv.eq_3,@cv.eq_4,@cv.eq_5,@cv.eq_6,@ey.eq_1,@gO.eq_1,@gO.eq_2,@fieldAt.eq_1,@dC.eq_1,@oQ.eq_1,@ik.eq_1,@content.eq_1,@content.eq_2,@content.eq_3,@putCells.eq_1,@Wn.eq_1,@Wn.eq_2,@Wn.eq_3,@Wn.eq_4,@PH.eq_1,@PH.eq_2,@PH.eq_3,@PH.eq_4,@S3.eq_1,@S3.eq_2,@S3.eq_3,@eC.eq_1,@eC.eq_2,@eC.eq_3,@kindOk.eq_1,@kindOk.eq_2,@kindOk.eq_3,@kindOk.eq_4,@jM.eq_1,@jM.eq_2,@jM.eq_3,@jM.eq_4,@mA.eq_1,@mA.eq_2,@mA.eq_3,@mA.eq_4,@mA.eq_5,@mA.eq_6,@mA.eq_7,@mA.eq_8,@rU.eq_1,@rU.eq_2,@rU.eq_3,@aS.eq_1,@aS.eq_2,@aS.eq_3,@aS.eq_4,@aS.eq_5,@aS.eq_6,@aS.eq_7,@mq.eq_1,@mq.eq_2,@sP.eq_1,@sP.eq_2,@sP.eq_3,@sP.eq_4⟩
theorem aey:type_of% (ai @Gq<|ai @Gm<|ai @Gn<|ai @S5<|ai @Na<|ai @MW<|ai @M5<|ai @HU<|ai @MQ<|ai @MR<|ai @Dl<|ai @MU<|ai @MT<|ai @Hy<|ai @Nv<|ai @NH<|ai @Sy<|ai @B7<|ai @B8<|ai @Gr<|ai @S6<|ai @Nb<|ai @MX<|ai @HV<|ai @M6<|ai @Dt<|ai @M9<|ai @M8<|ai @HB<|ai @Sz<|@B9):=⟨@Gq,@Gm,@Gn,@S5,@Na,@MW,@M5,@HU,@MQ,@MR,@Dl,@MU,@MT,@Hy,@Nv,@NH,@Sy,@B7,@B8,@Gr,@S6,@Nb,@MX,@HV,@M6,@Dt,@M9,@M8,@HB,@Sz,@B9⟩
section
variable {T:Nat->Option Ty} {Γ:Env} {N F e:Nat} {Q Q':Kt} {t:Nat->D} {h:Nat->Option Row}
theorem gJ (hm:∀x t h e,Q x t h e->Q' x t h e):∀(ws:List W) (x:Ex) (t:Nat->D) (h:Nat->Option Row) (e:Nat),cA T Γ N F ws Q x t h e->cA T Γ N F ws Q' x t h e
 | [],x,t,h,e,hk=>hm _ _ _ _ hk
 | .code c::ws,x,t,h,e,hk=>by
  unfold cA at hk ⊢
  cases x with
  | normal=>exact Wj c t h e _ _ hk (fun x t h e hx=>gJ hm ws x t h e hx)
  | exit n=>exact gJ hm ws _ t h e hk
  | ret=>exact gJ hm ws _ t h e hk
 | .blk id::ws,x,t,h,e,hk=>by
  unfold cA WV at hk ⊢
  cases x with
  | normal=>exact gJ hm ws _ t h e hk
  | exit n =>
   simp only at hk ⊢
   split at hk
   ·rename_i hn;rw[if_pos hn];exact gJ hm ws _ t h e hk
   ·rename_i hn;rw[if_neg hn];exact gJ hm ws _ t h e hk
  | ret=>exact gJ hm ws _ t h e hk
theorem oC:∀(ws:List W) (k:Nat),cA T Γ N F ws Q=cA T Γ N F (ws.take k) (cA T Γ N F (ws.drop k) Q)
 | ws,0=>by simp[cA]
 | [],k+1=>by simp[cA]
 | .code c::ws,k+1=>by
  rw[ahL,ahK]
  funext x t h e
  unfold cA
  rw[oC ws k]
 | .blk id::ws,k+1=>by
  rw[ahL,ahK]
  funext x t h e
  unfold cA
  rw[oC ws k]
variable {σ:Type} {ops l:List Oper} {ws:List W} {dst:Option Nat} {fs:List ju} {d:D} {g:Nat}
theorem rX {J:σ->(Nat->D)->(Nat->Option Row)->Nat->Prop} {P:σ->Prop} {R:Kt} (hrest:∀s t h e,J s t h e->P s->R .normal t h e):∀x t h e,CK J P R x t h e->R x t h e:=by
 intro x t h e hx
 cases x with
 | normal=>obtain⟨s,h1,h2⟩:=hx;exact hrest s t h e h2 h1
 | exit n=>exact hx
 | ret=>exact hx
theorem vo (hm:∀x t h e,Q x t h e->Q' x t h e) (hk:jy T Γ N F ops l ws Q t h e):jy T Γ N F ops l ws Q' t h e:=vr (fun t h hh=>gJ hm ws _ _ _ _ hh) _ _ _ hk
theorem vp (hm:∀x t h e,Q x t h e->Q' x t h e) (hk:ki T Γ N F ops l ws Q t h e fs):ki T Γ N F ops l ws Q' t h e fs:=vl (fun t h fs hh=>⟨hh.1,gJ hm ws _ _ _ _ hh.2⟩) _ _ _ _ hk
theorem rR (k:Nat):jy T Γ N F ops l ws Q t h e=jy T Γ N F ops l (ws.take k) (cA T Γ N F (ws.drop k) Q) t h e:=by unfold jy;rw[oC ws k]
theorem rS (k:Nat):ki T Γ N F ops l ws Q t h e fs=ki T Γ N F ops l (ws.take k) (cA T Γ N F (ws.drop k) Q) t h e fs:=by unfold ki;rw[oC ws k]
theorem GP (k:Nat) {o:Oper} : ny T Γ N F o ops l ws Q t h e=ny T Γ N F o ops l (ws.take k) (cA T Γ N F (ws.drop k) Q) t h e:=by
 unfold ny
 congr 1
 funext t E
 rw[rR k]
theorem GY (k:Nat) {o:Oper} : nA T Γ N F o ops l ws Q t h e fs=nA T Γ N F o ops l (ws.take k) (cA T Γ N F (ws.drop k) Q) t h e fs:=by
 unfold nA
 congr 1
 funext t E
 rw[rS k]
theorem LW {o:Oper} (hm:∀x t h e,Q x t h e->Q' x t h e) (hk:ny T Γ N F o ops l ws Q t h e):ny T Γ N F o ops l ws Q' t h e:=yK hk fun _ _ hh=>vo hm hh
theorem L2 {o:Oper} (hm:∀x t h e,Q x t h e->Q' x t h e) (hk:nA T Γ N F o ops l ws Q t h e fs):nA T Γ N F o ops l ws Q' t h e fs:=yK hk fun _ _ hh=>vp hm hh
variable (k:Nat) (J:σ->(Nat->D)->(Nat->Option Row)->Nat->Prop) (P:σ->Prop)
theorem jN {x y:Code} (hrest:∀s t h e,J s t h e->P s->cA T Γ N F (ws.drop k) Q .normal t h e) (hc:KF T Γ N F d g x y (ws.take k) (CK J P (cA T Γ N F (ws.drop k) Q)) t h e):KF T Γ N F d g x y ws Q t h e:=by
 unfold KF at hc ⊢
 have e1:∀c:Code,cA T Γ N F (.code c::ws) Q=cA T Γ N F (.code c::ws.take k) (cA T Γ N F (ws.drop k) Q):=fun c=>oC (.code c::ws) (k+1)
 rw[e1,e1]
 exact yI hc (fun _ hh=>gJ (rX hrest) _ _ _ _ _ hh) (fun _ hh=>gJ (rX hrest) _ _ _ _ _ hh)
theorem bs {want:Bool} {o:Oper} (hrest:∀s t h e,J s t h e->P s->cA T Γ N F (ws.drop k) Q .normal t h e) (hc:vG T Γ N F d g want o ops l (ws.take k) (CK J P (cA T Γ N F (ws.drop k) Q)) t h e):vG T Γ N F d g want o ops l ws Q t h e:=by
 unfold vG at hc ⊢
 refine E9 hc (fun t hh =>?_) (fun t hh =>?_) (fun t hh =>?_)
 ·cases want
  ·simp only[ags,if_false]at hh ⊢;rw[rR k];exact vo (rX hrest) hh
  ·simp only[if_true]at hh ⊢;rw[GP k];exact LW (rX hrest) hh
 ·cases want
  ·simp only[ags,if_false]at hh ⊢;rw[GP k];exact LW (rX hrest) hh
  ·simp only[if_true]at hh ⊢;rw[rR k];exact vo (rX hrest) hh
 ·rw[rR k];exact vo (rX hrest) hh
theorem E3 {want:Bool} {o:Oper} (hrest:∀s t h e,J s t h e->P s->cA T Γ N F (ws.drop k) Q .normal t h e) (hc:vH T Γ N F d g want o ops l (ws.take k) (CK J P (cA T Γ N F (ws.drop k) Q)) t h e fs):vH T Γ N F d g want o ops l ws Q t h e fs:=by
 unfold vH at hc ⊢
 refine E9 hc (fun t hh =>?_) (fun t hh =>?_) (fun t hh =>?_)
 ·cases want
  ·simp only[ags,if_false]at hh ⊢;rw[rS k];exact vp (rX hrest) hh
  ·simp only[if_true]at hh ⊢;rw[GY k];exact L2 (rX hrest) hh
 ·cases want
  ·simp only[ags,if_false]at hh ⊢;rw[GY k];exact L2 (rX hrest) hh
  ·simp only[if_true]at hh ⊢;rw[rS k];exact vp (rX hrest) hh
 ·rw[rS k];exact vp (rX hrest) hh
end
def mkW {α β γ:Type} (ty:Nat) (E:ij γ) (A:jt α) (F:List γ->α->Option (List γ×β)) (R:β->RK):Option (D×Row)->List D->Option (RK×Option Row):=fun lent ds =>
 match lent with
 | some (.buf 0 0 s o n,⟨0,ty',cells,false,true,false⟩)=>open Classical in
  if h:ty'=ty∧s=E.size∧∃p:List D×List γ×List D×α,cells=p.1++(ab E p.2.1++p.2.2.1)∧o=p.1.length∧n=p.2.1.length∧ds=A.ds p.2.2.2 then
   (F (Classical.choose h.2.2).2.1 (Classical.choose h.2.2).2.2.2).map fun r=>(R r.2,some ⟨0,ty,(Classical.choose h.2.2).1++(ab E r.1++(Classical.choose h.2.2).2.2.1),false,true,false⟩)
  else none
 | _=>none
theorem UD {γ:Type} {E:ij γ} {p p' q q':List D} {l l':List γ} (h:p++(ab E l++q)=p'++(ab E l'++q')) (hp:p.length=p'.length) (hl:l.length=l'.length):p=p'∧l=l'∧q=q':=by
 obtain⟨h1,h2⟩:=List.append_inj h hp
 obtain⟨h3,h4⟩:=List.append_inj h2 (by rw[bx,bx,hl])
 exact⟨h1,th E _ _ h3,h4⟩
theorem Yn {α β γ:Type} (ty:Nat) (E:ij γ) (A:jt α) (F:List γ->α->Option (List γ×β)) (R:β->RK) (pre post:List D) (l:List γ) (a:α) :
  mkW ty E A F R (some (.buf 0 0 E.size pre.length l.length,⟨0,ty,pre++(ab E l++post),false,true,false⟩)) (A.ds a)=(F l a).map fun r=>(R r.2,some ⟨0,ty,pre++(ab E r.1++post),false,true,false⟩):=by
 have h:ty=ty∧E.size=E.size∧∃p:List D×List γ×List D×α,pre++(ab E l++post)=p.1++(ab E p.2.1++p.2.2.1)∧pre.length=p.1.length∧l.length=p.2.1.length∧A.ds a=A.ds p.2.2.2:=⟨rfl,rfl,(pre,l,post,a),rfl,rfl,rfl,rfl⟩
 simp only[mkW]
 rw[dif_pos h]
 obtain⟨h1,h2,h3,h4⟩:=Classical.choose_spec h.2.2
 obtain⟨e1,e2,e3⟩:=UD h1 h2 h3
 rw[<- A.inj _ _ h4,<- e1,<- e2,<- e3]
theorem N4 {α β γ:Type} {ty:Nat} {E:ij γ} {A:jt α} {F:List γ->α->Option (List γ×β)} {R:β->RK} {lent:Option (D×Row)} {ds:List D} {rk:RK} {out:Option Row} (h:mkW ty E A F R lent ds=some (rk,out)) :
  ∃pre l post a l' r,lent=some (.buf 0 0 E.size pre.length l.length,⟨0,ty,pre++(ab E l++post),false,true,false⟩)∧ds=A.ds a∧F l a=some (l',r)∧rk=R r∧out=some ⟨0,ty,pre++(ab E l'++post),false,true,false⟩:=by
 unfold mkW at h
 split at h
 ·split at h
  ·rename_i he
   obtain⟨rfl,rfl,he⟩:=he
   rw[afP]at h
   obtain⟨⟨l',r⟩,h1,h2⟩:=h
   simp only[Prod.mk.injEq]at h2
   obtain⟨rfl,rfl⟩:=h2
   obtain⟨g1,g2,g3,g4⟩:=Classical.choose_spec he
   refine⟨_,_,_,_,l',r,?_,g4,h1,rfl,rfl⟩
   rw[<- g1,<- g2,<- g3]
  ·cases h
 ·cases h
theorem bP.adF {P:Program} {T:Nat->Option Ty} {Γ:Env} (hT:gz P T) (hΓ:bA P Γ) (hm:P.follows .mixedOrders=true) {α β γ:Type} {ty:Nat} {E:ij γ} {A:jt α} {F:List γ->α->Option (List γ×β)} {R:β->RK} {mode:Mode} {f:FuncId} {fn:Func} (hf:P.funcs[f]? = some fn) (hok:(match fn.body with|some c=>codeOk c|none=>true)=true)
  (hc:(fn.name == "runtime.NumGoroutine")=false∧fn.body.isNone=false) (hn:∀a,(A.ds a).length+1<=fn.ntmps)
  (h:∀pre post l a l' r,F l a=some (l',r)->aW mode T Γ FU fn (some (.buf 0 0 E.size pre.length l.length,⟨0,ty,pre++(ab E l++post),false,true,false⟩)) (A.ds a)=some (R r,some ⟨0,ty,pre++(ab E l'++post),false,true,false⟩)):bP P f (mkW ty E A F R) where
 calls lent afM rk out hg:=by
  obtain⟨pre,l,post,a,l',r,rfl,rfl,hr,rfl,rfl⟩:=N4 hg
  exact iT hT hΓ hm hf hok (hn a) rfl (h pre post l a l' r hr)
 callable:=⟨fn,hf,hc⟩
def mkE {α γ:Type} (ty:Nat) (E:ij γ) (A:jt α) (F:List γ->α->Option (List γ)):Option (D×Row)->List D->Option (RK×Option Row):=fun lent ds =>
 match lent with
 | some (.buf 0 0 s o n,⟨0,ty',cells,false,true,false⟩)=>open Classical in
  if h:ty'=ty∧s=E.size∧∃p:List D×List γ×List D×α,cells=p.1++(ab E p.2.1++p.2.2.1)∧o=p.1.length∧n=p.2.1.length∧ds=A.ds p.2.2.2 then
   (F (Classical.choose h.2.2).2.1 (Classical.choose h.2.2).2.2.2).map fun r=>(.fresh ty E.size r.length (ab E r),none)
  else none
 | _=>none
theorem acw {α γ:Type} (ty:Nat) (E:ij γ) (A:jt α) (F:List γ->α->Option (List γ)) (pre post:List D) (l:List γ) (a:α) :
  mkE ty E A F (some (.buf 0 0 E.size pre.length l.length,⟨0,ty,pre++(ab E l++post),false,true,false⟩)) (A.ds a)=(F l a).map fun r=>(.fresh ty E.size r.length (ab E r),none):=by
 have h:ty=ty∧E.size=E.size∧∃p:List D×List γ×List D×α,pre++(ab E l++post)=p.1++(ab E p.2.1++p.2.2.1)∧pre.length=p.1.length∧l.length=p.2.1.length∧A.ds a=A.ds p.2.2.2:=⟨rfl,rfl,(pre,l,post,a),rfl,rfl,rfl,rfl⟩
 simp only[mkE]
 rw[dif_pos h]
 obtain⟨h1,h2,h3,h4⟩:=Classical.choose_spec h.2.2
 obtain⟨e1,e2,e3⟩:=UD h1 h2 h3
 rw[<- A.inj _ _ h4,<- e2]
theorem Yk {α γ:Type} {ty:Nat} {E:ij γ} {A:jt α} {F:List γ->α->Option (List γ)} {lent:Option (D×Row)} {ds:List D} {rk:RK} {out:Option Row} (h:mkE ty E A F lent ds=some (rk,out)) :
  ∃pre l post a r,lent=some (.buf 0 0 E.size pre.length l.length,⟨0,ty,pre++(ab E l++post),false,true,false⟩)∧ds=A.ds a∧F l a=some r∧rk=.fresh ty E.size r.length (ab E r)∧out=none:=by
 unfold mkE at h
 split at h
 ·split at h
  ·rename_i he
   obtain⟨rfl,rfl,he⟩:=he
   rw[afP]at h
   obtain⟨r,h1,h2⟩:=h
   simp only[Prod.mk.injEq]at h2
   obtain⟨rfl,rfl⟩:=h2
   obtain⟨g1,g2,g3,g4⟩:=Classical.choose_spec he
   refine⟨(Classical.choose he).1,(Classical.choose he).2.1,(Classical.choose he).2.2.1,(Classical.choose he).2.2.2,r,?_,g4,h1,rfl,rfl⟩
   rw[<- g1,<- g2,<- g3]
  ·cases h
 ·cases h
theorem bP.adE {P:Program} {T:Nat->Option Ty} {Γ:Env} (hT:gz P T) (hΓ:bA P Γ) (hm:P.follows .mixedOrders=true) {α γ:Type} {ty:Nat} {E:ij γ} {A:jt α} {F:List γ->α->Option (List γ)} {f:FuncId} {fn:Func} (hf:P.funcs[f]? = some fn) (hok:(match fn.body with|some c=>codeOk c|none=>true)=true)
  (hc:(fn.name == "runtime.NumGoroutine")=false∧fn.body.isNone=false) (hn:∀a,(A.ds a).length+1<=fn.ntmps)
  (h:∀pre post l a r,F l a=some r->aW (.fresh ty E.size) T Γ FU fn (some (.buf 0 0 E.size pre.length l.length,⟨0,ty,pre++(ab E l++post),false,true,false⟩)) (A.ds a)=some (.fresh ty E.size r.length (ab E r),none)):bP P f (mkE ty E A F) where
 calls lent afM rk out hg:=by
  obtain⟨pre,l,post,a,r,rfl,rfl,hr,rfl,rfl⟩:=Yk hg
  exact iT hT hΓ hm hf hok (hn a) rfl (h pre post l a r hr)
 callable:=⟨fn,hf,hc⟩
theorem bP.zero {P:Program} {f:FuncId} {fn:Func} (hf:P.funcs[f]? = some fn) (hc:(fn.name == "runtime.NumGoroutine")=false∧fn.body.isNone=false) {α β:Type} {A:jt α} {F:α->Option β} {R:β->RK} (h0:∀a,F a=none):bP P f (fb A F R) where
 calls lent afM rk out hg:=by
  obtain⟨rfl,rfl,a,r,rfl,hr,rfl⟩:=pZ hg
  rw[h0]at hr
  cases hr
 callable:=⟨fn,hf,hc⟩
section
variable {h:Nat->Option Row} {Γ:Env} {g e x v d:Nat} {dst:Option Nat} {fr:List Nat} {afM rest:List D} {d0:D} {T:Nat->Option Ty} {rs:List ResultVar}
def Gp (h:Nat->Option Row) (e:Nat) (dst:Option Nat) (x v:Nat) (fr:List Nat):Option (RK×Option Row)->Option bu
 | some (.clean c,some r1)=>some ⟨c,gP h fr++[(x,some { r1 with v:=v })]⟩
 | some (.same s o n,some r1)=>some ⟨.buf x v s o n,gP h fr++[(x,some { r1 with v:=v })]⟩
 | some (.fresh ty s n cells,none) =>
  match dst with
  | some d=>if fr.contains d=false then some ⟨.buf d e s 0 n,gP h fr++[(x,none),(d,some ⟨e,ty,cells,false,true,false⟩)]⟩ else none
  | none=>none
 | _=>none
def W1 (Γ:Env) (h:Nat->Option Row) (e:Nat) (dst:Option Nat) (g x v:Nat) (d0:D) (r:Row):Option (List D×List Nat)->Option bu
 | some (afM,fr)=>if fr.contains x=false then Gp h e dst x v fr (Γ.sem g (some (d0,r)) afM) else none
 | none=>none
def La (Γ:Env) (h:Nat->Option Row) (e:Nat) (dst:Option Nat) (g x v:Nat) (d0:D) (rest:List D):Option Row->Option bu
 | some r=>if r.fz=false then W1 Γ h e dst g x v d0 { r with v:=0 } (bn h rest) else none
 | none=>none
theorem Lb {s o n:Nat} : Ba true Γ h e dst g (.buf x v s o n::rest)=La Γ h e dst g x v (.buf 0 0 s o n) rest (live h x v):=by
 simp only[Ba,if_true,nQ,xO]
 cases live h x v with
 | none=>rfl
 | some r =>
  simp only[La]
  cases bn h rest with
  | none=>rfl
  | some p=>rfl
def lvR (v:Nat):Option Row->Option Row
 | some r=>if r.v=v∧r.mp=true∧pY r=true then some r else none
 | none=>none
theorem NI {v ty:Nat} {ks:List bV} {vs:List D} {fz lst:Bool} (hty:ty<900000):lvR v (some ⟨v,ty,[.mpc ks vs],fz,lst,true⟩)=some ⟨v,ty,[.mpc ks vs],fz,lst,true⟩:=by simp[lvR,pY,hty]
theorem SA:Ba true Γ h e dst g (.mp x v::rest)=La Γ h e dst g x v (.mp 0 0) rest (lvR v (h x)):=by
 simp only[Ba,if_true,nQ,xO]
 have:wI h x v=lvR v (h x):=by unfold wI lvR;cases h x<;>rfl
 rw[this]
 cases lvR v (h x) with
 | none=>rfl
 | some r =>
  simp only[La]
  cases bn h rest with
  | none=>rfl
  | some p=>rfl
theorem xd {c:D} {v' ty:Nat} {cells:List D} {fz lst:Bool} : Gp h e dst x v fr (some (.clean c,some ⟨v',ty,cells,fz,lst,true⟩))=some ⟨c,gP h fr++[(x,some ⟨v,ty,cells,fz,lst,true⟩)]⟩:=aiu
theorem Ca {r:Row} : La Γ h e dst g x v d0 rest (some r)=if r.fz=false then W1 Γ h e dst g x v d0 { r with v:=0 } (bn h rest) else none:=aiu
theorem Cb {r:Row} : W1 Γ h e dst g x v d0 r (some (afM,fr))=if fr.contains x=false then Gp h e dst x v fr (Γ.sem g (some (d0,r)) afM) else none:=aiu
theorem zK {c:D} {v' ty:Nat} {cells:List D} {fz lst:Bool} : Gp h e dst x v fr (some (.clean c,some ⟨v',ty,cells,fz,lst,false⟩))=some ⟨c,gP h fr++[(x,some ⟨v,ty,cells,fz,lst,false⟩)]⟩:=aiu
theorem Cc {s o n v' ty:Nat} {cells:List D} {fz lst:Bool} : Gp h e dst x v fr (some (.same s o n,some ⟨v',ty,cells,fz,lst,false⟩))=some ⟨.buf x v s o n,gP h fr++[(x,some ⟨v,ty,cells,fz,lst,false⟩)]⟩:=aiu
theorem zL {s n ty:Nat} {cells:List D} : Gp h e (some d) x v fr (some (.fresh ty s n cells,none))=if fr.contains d=false then some ⟨.buf d e s 0 n,gP h fr++[(x,none),(d,some ⟨e,ty,cells,false,true,false⟩)]⟩ else none:=aiu
theorem Al {ty sz i:Nat} {t:Nat->D} {l:D×Row} : eR (.fresh ty sz) T (some l) [.tmp i] ⟨t,h,e⟩=lz ty sz h (t i):=aiu
def adx (y v s o:Nat):Option Row->Option Ty->Option (Nat×Nat)->Option bu
 | some _,some φ,some (l,k)=>if φ.size=s∧0<s then some ⟨.buf y v s (o+l*s) (k-l),[]⟩ else none
 | _,_,_=>none
theorem Hf {y v s o l k:Nat} {r:Row} {φ:Ty} : adx y v s o (some r) (some φ) (some (l,k))=if φ.size=s∧0<s then some ⟨.buf y v s (o+l*s) (k-l),[]⟩ else none:=aiu
theorem S4 {el b c y v s o n:Nat} {z:List Value} {q:Bool} {lo hi:Option D} : cv T ⟨.slice el,b,c,z,q⟩ h (.buf y v s o n) lo hi none=adx y v s o (live h y v) (T el) (sP n lo hi):=by
 simp only[cv]
 cases live h y v with
 | none=>rfl
 | some r =>
  simp only
  cases T el with
  | none=>rfl
  | some φ =>
   cases sP n lo hi with
   | none=>rfl
   | some p=>rfl
def aci (ty:Nat):Option (List D×List Nat)->Option Row->Option (RK×Option Row)
 | some (ds,fr),some r=>if r.v=0∧r.fz=false∧r.ty=ty∧r.mp=false∧fr.contains 0=false then some (.clean (kh ds),some r) else none
 | _,_=>none
theorem Hb {ty:Nat} {ds:List D} {r:Row} : aci ty (some (ds,fr)) (some r)=if r.v=0∧r.fz=false∧r.ty=ty∧r.mp=false∧fr.contains 0=false then some (.clean (kh ds),some r) else none:=aiu
theorem Hc {t:Nat->D} {ty v:Nat} {cells:List D} {fz lst:Bool} : eR .clean T (some (d0,⟨v,ty,cells,fz,lst,false⟩)) rs ⟨t,h,e⟩=aci ty (rP T ⟨t,h,e⟩ rs) (h 0):=by
 simp only[eR,n5,ja,Yy,aci]
 cases rP T ⟨t,h,e⟩ rs with
 | none=>rfl
 | some p =>
  obtain⟨ds,fr⟩:=p
  cases h 0 with
  | none=>rfl
  | some r =>
   simp only
   by_cases h1:r.v=0∧r.fz=false∧r.ty=ty∧r.mp=false
   ·rw[if_pos ⟨h1.1,h1.2.1,h1.2.2.1,h1.2.2.2,rA h1.2.2.2⟩]
    simp only[agu]
    by_cases h2:fr.contains 0=false
    ·rw[if_pos h2,if_pos ⟨h1.1,h1.2.1,h1.2.2.1,h1.2.2.2,h2⟩]
    ·rw[if_neg h2,if_neg (fun hh=>h2 hh.2.2.2.2)]
   ·rw[if_neg (fun hh=>h1 ⟨hh.1,hh.2.1,hh.2.2.1,hh.2.2.2.1⟩),if_neg (fun hh=>h1 ⟨hh.1,hh.2.1,hh.2.2.1,hh.2.2.2.1⟩)]
def S1 (ty:Nat):Option (List D×List Nat)->Option Row->Option (RK×Option Row)
 | some (ds,fr),some r=>if r.v=0∧r.fz=false∧r.ty=ty∧(r.mp=true∧pY r=true)∧fr.contains 0=false then some (.clean (kh ds),some r) else none
 | _,_=>none
theorem CX {ty:Nat} {ds:List D} {ks:List bV} {vs:List D} {lst:Bool} (hty:ty<900000):S1 ty (some (ds,fr)) (some ⟨0,ty,[.mpc ks vs],false,lst,true⟩)=if fr.contains 0=false then some (.clean (kh ds),some ⟨0,ty,[.mpc ks vs],false,lst,true⟩) else none:=by
 simp[S1,pY,hty]
theorem C0 {t:Nat->D} {ty v:Nat} {cells:List D} {fz lst:Bool} : eR .clean T (some (d0,⟨v,ty,cells,fz,lst,true⟩)) rs ⟨t,h,e⟩=S1 ty (rP T ⟨t,h,e⟩ rs) (h 0):=by
 simp only[eR,n5,ja,Yy,S1]
 cases rP T ⟨t,h,e⟩ rs with
 | none=>rfl
 | some p =>
  obtain⟨ds,fr⟩:=p
  cases h 0 with
  | none=>rfl
  | some r =>
   simp only
   by_cases h1:r.v=0∧r.fz=false∧r.ty=ty∧(r.mp=true∧pY r=true)
   ·rw[if_pos h1]
    simp only[agu]
    by_cases h2:fr.contains 0=false
    ·rw[if_pos h2,if_pos ⟨h1.1,h1.2.1,h1.2.2.1,h1.2.2.2,h2⟩]
    ·rw[if_neg h2,if_neg (fun hh=>h2 hh.2.2.2.2)]
   ·rw[if_neg h1,if_neg (fun hh=>h1 ⟨hh.1,hh.2.1,hh.2.2.1,hh.2.2.2.1⟩)]
def aaA (ty:Nat):D->Option Row->Option (RK×Option Row)
 | .buf 0 0 s o n,some r=>if r.v=0∧r.fz=false∧r.ty=ty∧r.mp=false then some (.same s o n,some r) else none
 | _,_=>none
theorem Mm {ty s o n:Nat} {r:Row} : aaA ty (.buf 0 0 s o n) (some r)=if r.v=0∧r.fz=false∧r.ty=ty∧r.mp=false then some (.same s o n,some r) else none:=aiu
theorem Hd {t:Nat->D} {ty v i:Nat} {cells:List D} {fz lst:Bool} : eR .same T (some (d0,⟨v,ty,cells,fz,lst,false⟩)) [.tmp i] ⟨t,h,e⟩=aaA ty (t i) (h 0):=by
 simp only[eR,BC,ja]
 generalize t i=q
 cases q with
 | buf a b s o n =>
  cases h 0 with
  | none=>rcases a with _|a<;>rcases b with _|b<;>rfl
  | some r =>
   simp only
   have h0:(r.v=0∧r.fz=false∧r.ty=ty∧r.mp=false∧pY r=true)↔(r.v=0∧r.fz=false∧r.ty=ty∧r.mp=false):=⟨fun hh=>⟨hh.1,hh.2.1,hh.2.2.1,hh.2.2.2.1⟩,fun hh=>⟨hh.1,hh.2.1,hh.2.2.1,hh.2.2.2,rA hh.2.2.2⟩⟩
   by_cases h1:r.v=0∧r.fz=false∧r.ty=ty∧r.mp=false
   ·rcases a with _|a<;>rcases b with _|b<;>simp[aaA,h1,rA h1.2.2.2]
   ·rcases a with _|a<;>rcases b with _|b<;>simp only[aaA,h0,h1,if_false]<;>rfl
 | _=>rfl
end
section
variable {α:Type} (E:ij α) {l m u x:List α} {y y':α} {i a b:Int} {pre post:List D}
theorem aa7 (h:Bv l a b=some x):ab E (l.take a.toNat)++(ab E x++ab E (l.drop b.toNat))=ab E l:=by
 unfold Bv at h
 split at h
 ·rename_i hc
  cases h
  rw[<- iI,<- iI]
  congr 1
  have e:l.drop b.toNat=(l.drop a.toNat).drop (b.toNat-a.toNat):=by rw[ahF];congr 1;omega
  rw[e,ahG,ahG]
 ·cases h
theorem aa8 (h:Bv l a b=some x):(ab E (l.take a.toNat)).length=a.toNat*E.size:=by
 unfold Bv at h
 split at h
 ·rw[bx,aga,ag4 (by omega)]
 ·cases h
theorem abX (h:Bv l a b=some x):x.length=b.toNat-a.toNat:=by
 unfold Bv at h
 split at h
 ·cases h
  simp
  omega
 ·cases h
theorem aa6:ab E (l.take i.toNat)++(ab E u++ab E (l.drop b.toNat))=ab E (l.take i.toNat++(u++l.drop b.toNat)):=by rw[iI,iI]
theorem XY (h:P.idx l i=some y):(pre++(ab E l++post)).drop (pre.length+i.toNat*E.size)=E.cells y++(ab E (l.drop (i.toNat+1))++post):=by
 rw[<- ahF,List.drop_left,ahe (by rw[bx];have:=rv E h;omega),BE E h,ahd]
theorem XZ (h:P.idx l i=some y):pre.length+i.toNat*E.size+E.size<=(pre++(ab E l++post)).length:=by
 have:=rv E h
 rw[ag1,ag1,bx]
 omega
theorem M3 (h:P.idx l i=some y):(0<=i∧i<l.length)∧(pre++(ab E l++post)).drop (pre.length+i.toNat*E.size)=E.cells y++(ab E (l.drop (i.toNat+1))++post)∧pre.length+i.toNat*E.size+E.size<=(pre++(ab E l++post)).length:=⟨JY h,XY E h,XZ E h⟩
theorem OL (h:P.idx l i=some y):putCells (pre++(ab E l++post)) (pre.length+i.toNat*E.size) (E.cells y')=pre++(ab E (l.set i.toNat y')++post):=by
 have h1:=YO E (x':=y') h
 have hf:=rv E h
 have hl:=bx E l
 unfold putCells at h1 ⊢
 rw[<- h1,E.len]
 have e1:(pre++(ab E l++post)).take (pre.length+i.toNat*E.size)=pre++(ab E l).take (i.toNat*E.size):=by
  rw[ahg,ahi (by omega),ahf,ahh (by omega)]
 have e2:(pre++(ab E l++post)).drop (pre.length+i.toNat*E.size+E.size)=(ab E l).drop (i.toNat*E.size+E.size)++post:=by
  rw[agc,ahC,ahD (by omega),ahf,ahA,ahe (by omega)]
 rw[e1,e2]
 simp only[ahd]
theorem Z7 (h:Bv l a b=some x) (hu:u.length=x.length):(l.take a.toNat++(u++l.drop b.toNat)).length=l.length:=by
 have hn:=abX h
 unfold Bv at h
 split at h
 ·simp only[ag1,aga,agb]
  omega
 ·cases h
theorem aaX (h:Bv l 0 b=some x):pre.length+x.length*E.size<=(pre++(ab E l++post)).length∧((pre++(ab E l++post)).drop pre.length).take (x.length*E.size)=ab E x:=by
 obtain⟨h1,h2,h3,h4,h5⟩:=Kx E h
 have:=agE E.size h3
 refine⟨by rw[ag1,ag1,bx];omega,?_⟩
 rw[List.drop_left,ahh (by rw[bx];exact this),h5]
end
section
variable {h:Nat->Option Row} {Γ:Env} {e:Nat} {dst:Option Nat}
def caP:Option (D×List Nat)->Option (List D×List Nat)->Option (List D×List Nat)
 | some (d,fr),some (ds,fr')=>some (d::ds,fr++fr')
 | _,_=>none
theorem K9 {d:D} {ds:List D} {fr fr':List Nat} : caP (some (d,fr)) (some (ds,fr'))=some (d::ds,fr++fr'):=aiu
theorem Lo:cH h []=some ([],[]):=aiu
theorem GB {d:D} {ds:List D} : cH h (d::ds)=caP (aP h d) (cH h ds):=by
 simp only[cH]
 cases aP h d with
 | none=>rfl
 | some x=>cases cH h ds<;>rfl
theorem SD {k:IntKind} {n:Int} : aP h (.int k n)=some (.int k n,[]):=aiu
theorem Lm {b:Bool} : aP h (.bool b)=some (.bool b,[]):=aiu
theorem SG {b:ByteArray} : aP h (.str b)=some (.str b,[]):=aiu
theorem Xb {a b:Bool} {n:Nat} {xs:List D} : aP h (.sl a b n xs)=some (.sl false false n xs,[]):=aiu
theorem SC {xs:List D} : aP h (.agg xs)=some (.agg (xs.map canon),[]):=aiu
theorem W7 {f:Nat} : aP h (.fn f)=some (.fn f,[]):=aiu
def clC (f k:Nat):Option (List D×List Nat)->Option (D×List Nat)
 | some (ys,fr)=>some (.clo f k ys,fr)
 | none=>none
theorem Ly {f k:Nat} {ys:List D} {fr:List Nat} : clC f k (some (ys,fr))=some (.clo f k ys,fr):=aiu
theorem Ls {f k:Nat} {xs:List D} : bE h (.clo f k xs)=clC f k (cH h xs):=by
 simp only[bE]
 cases cH h xs<;>rfl
theorem Lj {g k:Nat} {caps args:List D} : gB Γ h e dst (.clo g k caps) args=if caps.all iE then Ba false Γ h e dst g (caps.take k++(args++caps.drop k)) else none:=by
 simp only[gB,Ba,ags,if_false]
theorem TJ {k:IntKind} {n:Int} : iE (.int k n)=true:=aiu
theorem OD {b:Bool} : iE (.bool b)=true:=aiu
theorem TM {b:ByteArray} : iE (.str b)=true:=aiu
theorem YF {a b:Bool} {n:Nat} {xs:List D} : iE (.sl a b n xs)=true:=aiu
theorem TI {xs:List D} : iE (.agg xs)=true:=aiu
theorem YB {f:Nat} : iE (.fn f)=true:=aiu
end
theorem EA:kh []=.tup []:=aiu
def aFn (f:Nat):Arg Unit:=⟨fun _ =>.fn f,fun _ _ _=>rfl⟩
def UN {α:Type} (f k:Nat) (a:jt α):Arg α:=⟨fun x =>.clo f k (a.ds x),fun x y h=>a.inj _ _ (by simpa using h)⟩
theorem vm7:type_of% (ai @K9<|ai @Lo<|ai @GB<|ai @SD<|ai @Lm<|ai @SG<|ai @Xb<|ai @SC<|ai @W7<|ai @Ly<|ai @Ls<|ai @Lj<|ai @TJ<|ai @OD<|ai @TM<|ai @YF<|ai @TI<|ai @YB<|ai @EA<|ai @xl<|ai @xo<|@By):=⟨@K9,@Lo,@GB,@SD,@Lm,@SG,@Xb,@SC,@W7,@Ly,@Ls,@Lj,@TJ,@OD,@TM,@YF,@TI,@YB,@EA,@xl,@xo,@By⟩
theorem vm6:type_of% (ai @OT<|ai @agT<|ai @S4<|ai @Hf<|ai @zL<|ai @Al<|ai @Lb<|ai @SA<|ai @NI<|ai @xd<|ai @CX<|ai @C0<|ai @Ca<|ai @Cb<|ai @zK<|ai @Cc<|ai @Hb<|ai @Hc<|ai @Mm<|@Hd):=⟨@OT,@agT,@S4,@Hf,@zL,@Al,@Lb,@SA,@NI,@xd,@CX,@C0,@Ca,@Cb,@zK,@Cc,@Hb,@Hc,@Mm,@Hd⟩
section
variable {T:Nat->Option Ty} {h:Nat->Option Row} {τ:Ty} {q:Nat->Bool}
theorem X8 {x v o:Nat} : mf τ h (.ptr x v o)=mH τ h x v o (live h x v):=aiu
theorem abt {xs:List D} : mf τ h (.ip xs)=di τ h (.ip xs):=aiu
theorem abq {x v o v' ty:Nat} {c:List D} {fz:Bool} : mH τ h x v o (some ⟨v',ty,c,fz,true,false⟩)=di τ h (.ptr x v o):=by
 simp only[mH,ahk,Bool.and_false,ags,if_false]
theorem abr {x v o v' ty:Nat} {c:List D} {lst:Bool} : mH τ h x v o (some ⟨v',ty,c,false,lst,false⟩)=di τ h (.ptr x v o):=by
 simp only[mH,ahO,ags,if_false]
def ldA:Option D->Option bu->Option bu
 | some d,_=>some ⟨d,[]⟩
 | none,E=>E
theorem Nk {d:D} {E:Option bu} : ldA (some d) E=some ⟨d,[]⟩:=aiu
theorem Nj {E:Option bu} : ldA none E=E:=aiu
theorem abp {x v o v' ty:Nat} {c:List D} : mH τ h x v o (some ⟨v',ty,c,true,false,false⟩)=if o+τ.size<=c.length then ldA (PR τ.ds.nn ((c.drop o).take τ.size)) (di τ h (.ptr x v o)) else none:=by
 simp only[mH,ahP,Bool.and_self,if_true]
 cases PR τ.ds.nn ((c.drop o).take τ.size)<;>rfl
theorem WI {x v s o n:Nat} : PR true [.ali x v s o n]=some (.box1 x v s o n):=aiu
theorem WH {x v s o n:Nat} : PR false [.ali x v s o n]=some (.buf x v s o n):=aiu
theorem Ua {p:D} {k:IntKind} {n:Int} : cJ τ h p (.int k n)=cB τ h p (.int k n):=aiu
theorem Ps {p:D} {b:Bool} : cJ τ h p (.bool b)=cB τ h p (.bool b):=aiu
theorem Uc {p:D} {b:ByteArray} : cJ τ h p (.str b)=cB τ h p (.str b):=aiu
theorem Zm {p:D} {a b:Bool} {n:Nat} {xs:List D} : cJ τ h p (.sl a b n xs)=cB τ h p (.sl a b n xs):=aiu
theorem Ub {p:D} {x v o:Nat} : cJ τ h p (.ptr x v o)=cB τ h p (.ptr x v o):=aiu
theorem Y9 {p:D} {xs:List D} : cJ τ h p (.ip xs)=cB τ h p (.ip xs):=aiu
theorem T8 {p:D} {x v s o n:Nat} : cJ τ h p (.buf x v s o n)=cB τ h p (.buf x v s o n):=aiu
theorem T6 {p:D} {xs:List D} : cJ τ h p (.agg xs)=cB τ h p (.agg xs):=aiu
theorem Y8 {p:D} {f:Nat} : cJ τ h p (.fn f)=cB τ h p (.fn f):=aiu
theorem T9 {p:D} {f k:Nat} {xs:List D} : cJ τ h p (.clo f k xs)=cB τ h p (.clo f k xs):=aiu
theorem Ud {p:D}  : cJ τ h p (.und)=cB τ h p (.und):=aiu
def adY (τ:Ty) (x o y vy s oy n:Nat):Option Row->Option bu
 | some r=>if τ.size=1∧o=0∧r.cells.length=1∧r.fz=false∧r.lst=false then some ⟨.und,[(x,some ⟨r.v,r.ty,[.ali y vy s oy n],true,false,false⟩)]⟩ else none
 | none=>none
theorem I4 {x o y vy s oy n:Nat} {r:Row} : adY τ x o y vy s oy n (some r)=if τ.size=1∧o=0∧r.cells.length=1∧r.fz=false∧r.lst=false then some ⟨.und,[(x,some ⟨r.v,r.ty,[.ali y vy s oy n],true,false,false⟩)]⟩ else none:=aiu
theorem T7 {x v o y vy s oy n:Nat} : cJ τ h (.ptr x v o) (.box1 y vy s oy n)=adY τ x o y vy s oy n (live h x v):=by
 simp only[cJ]
 cases live h x v<;>rfl
def K5 (b:Bool) (T:Nat->Option Ty) (τ:Ty) (h:Nat->Option Row) (ps:List (Nat×D)):Option bu :=
 if b then ey T τ h ps else
  match τ.ds,ps with
  | .struct fs,[(0,.buf x v s o n)]=>if (alive h (.buf x v s o n))∧(fs.all fun f=>(T f.1).isSome)∧fieldAt T fs 0=some (0,1)∧τ.zero.length=1 then some ⟨.box1 x v s o n,[]⟩ else none
  | .struct fs,[(0,.box1 x v s o n)]=>if (alive h (.buf x v s o n))∧(fs.all fun f=>(T f.1).isSome)∧fieldAt T fs 0=some (0,1)∧τ.zero.length=1 then some ⟨.box1 x v s o n,[]⟩ else none
  | _,_=>cE (ey T τ h ps)
theorem Sx {d:Nat} {ps:List (Nat×D)} : nS q T τ h (some d) ps=K5 (q d) T τ h ps:=aiu
theorem Gg:K5 false T τ h []=cE (ey T τ h []):=by
 unfold K5
 rw[if_neg (by simp)]
 cases τ.ds<;>rfl
theorem WY {cs:List D} {hw:List (Nat×Option Row)} : cE (some ⟨.agg cs,hw⟩)=some ⟨.agg (cs.map canon),hw⟩:=aiu
theorem Gh {ps:List (Nat×D)} : K5 true T τ h ps=ey T τ h ps:=aiu
def WT (T:Nat->Option Ty) (h:Nat->Option Row) (nz x v s o n:Nat):Ds->Option bu
 | .struct fs=>if (alive h (.buf x v s o n))∧(fs.all fun f=>(T f.1).isSome)∧fieldAt T fs 0=some (0,1)∧nz=1 then some ⟨.box1 x v s o n,[]⟩ else none
 | _=>none
theorem WU {nz x v s o n:Nat} {fs:List (Nat×Nat)} : WT T h nz x v s o n (.struct fs)=if (alive h (.buf x v s o n))∧(fs.all fun f=>(T f.1).isSome)∧fieldAt T fs 0=some (0,1)∧nz=1 then some ⟨.box1 x v s o n,[]⟩ else none:=aiu
theorem K6 {x v s o n:Nat} : K5 false T τ h [(0,.box1 x v s o n)]=WT T h τ.zero.length x v s o n τ.ds:=by
 unfold K5 WT ey
 rw[if_neg (by simp)]
 cases τ.ds<;>rfl
theorem B5 {x v s o n:Nat} : K5 false T τ h [(0,.buf x v s o n)]=WT T h τ.zero.length x v s o n τ.ds:=by
 unfold K5 WT ey
 rw[if_neg (by simp)]
 cases τ.ds<;>rfl
def clX:Option (D×List Nat)->Option (D×List Nat)
 | some (d,fr)=>some (.agg [d],fr)
 | none=>none
theorem LJ {d:D} {fr:List Nat} : clX (some (d,fr))=some (.agg [d],fr):=aiu
theorem Lq {x v s o n:Nat} : bE h (.box1 x v s o n)=clX (clB x s o n (live h x v)):=by
 simp only[bE,aP,cZ]
 cases live h x v with
 | none=>rfl
 | some r=>by_cases hc:o+n*s<=r.cells.length<;>simp[clB,clX,hc,canon]
theorem Yv {x v s o n:Nat} : nm (.box1 x v s o n)=[x]:=aiu
theorem F7 {x v s o n:Nat} : alive h (.buf x v s o n)=(ml h x v).isSome:=aiu
theorem Hn {fs:List (Nat×Nat)} {ft off:Nat} : fieldAt T ((ft,off)::fs) 0=(T ft).map fun φ=>(off,φ.size):=by
 simp only[fieldAt,List.getElem?_cons_zero]
 cases T ft<;>rfl
end
theorem vm8:type_of% (ai @X8<|ai @abt<|ai @abq<|ai @abr<|ai @Nk<|ai @Nj<|ai @abp<|ai @WI<|ai @WH<|ai @Ua<|ai @Ps<|ai @Uc<|ai @Zm<|ai @Ub<|ai @Y9<|ai @T8<|ai @T6<|ai @Y8<|ai @T9<|ai @Ud<|ai @T7<|ai @I4<|ai @Sx<|ai @Gh<|ai @WU<|ai @B5<|ai @Gg<|ai @K6<|ai @WY<|ai @LJ<|ai @Lq<|ai @Yv<|ai @F7<|@Hn):=⟨@X8,@abt,@abq,@abr,@Nk,@Nj,@abp,@WI,@WH,@Ua,@Ps,@Uc,@Zm,@Ub,@Y9,@T8,@T6,@Y8,@T9,@Ud,@T7,@I4,@Sx,@Gh,@WU,@B5,@Gg,@K6,@WY,@LJ,@Lq,@Yv,@F7,@Hn⟩
theorem aeA:type_of% (ai @Wp<|ai @aba<|ai @IH<|ai @TW<|ai @YZ<|ai @YY<|ai @N9<|ai @N8<|ai @abQ<|ai @Hv<|ai @Hu<|ai @Mw<|ai @H0<|ai @DS<|ai @Ob<|ai @TD<|ai @TN<|ai @TU<|ai @Nu<|ai @Yd<|ai @Tp<|ai @HG<|ai @Tn<|ai @Nl<|ai @HH<|ai @Nn<|ai @To<|ai @T2<|ai @IU<|ai @IV<|ai @IJ<|ai @IX<|ai @IT<|ai @Ph<|ai @IW<|ai @Pj<|ai @T1<|ai @Pg<|ai @I1<|ai @OG<|ai @OF<|ai @Tm<|ai @HE<|ai @X5<|ai @X6<|ai @HF<|ai @TX<|ai @I3<|ai @Y6<|ai @Y7<|ai @Pp<|ai @Po<|ai @Jd<|ai @Je<|ai @Fb<|ai @UI<|ai @UG<|ai @PB<|ai @Uy<|ai @Z1<|ai @TH<|ai @Yz<|ai @YA<|ai @Z2<|ai @UH<|ai @UJ<|ai @Jc<|ai @PF<|ai @Pn<|@Bz):=⟨@Wp,@aba,@IH,@TW,@YZ,@YY,@N9,@N8,@abQ,@Hv,@Hu,@Mw,@H0,@DS,@Ob,@TD,@TN,@TU,@Nu,@Yd,@Tp,@HG,@Tn,@Nl,@HH,@Nn,@To,@T2,@IU,@IV,@IJ,@IX,@IT,@Ph,@IW,@Pj,@T1,@Pg,@I1,@OG,@OF,@Tm,@HE,@X5,@X6,@HF,@TX,@I3,@Y6,@Y7,@Pp,@Po,@Jd,@Je,@Fb,@UI,@UG,@PB,@Uy,@Z1,@TH,@Yz,@YA,@Z2,@UH,@UJ,@Jc,@PF,@Pn,@Bz⟩
theorem aeB:type_of% (ai @S7<|ai @Nc<|ai @MY<|ai @M7<|ai @MS<|ai @HX<|ai @Om<|ai @DW<|ai @Oo<|ai @On<|ai @H5<|ai @Ol<|ai @Oj<|ai @IN<|ai @IZ<|ai @IM<|ai @IY<|ai @TY<|ai @T3<|ai @IP<|ai @I0<|ai @Pb<|ai @Pk<|ai @HP<|ai @HQ<|ai @KX<|ai @KY<|ai @Pe<|ai @IQ<|ai @Pf<|ai @IS<|ai @T0<|ai @Pd<|ai @Gb<|ai @Ga<|@ml.eq_1):=⟨@S7,@Nc,@MY,@M7,@MS,@HX,@Om,@DW,@Oo,@On,@H5,@Ol,@Oj,@IN,@IZ,@IM,@IY,@TY,@T3,@IP,@I0,@Pb,@Pk,@HP,@HQ,@KX,@KY,@Pe,@IQ,@Pf,@IS,@T0,@Pd,@Gb,@Ga,@ml.eq_1⟩
theorem aeC:type_of% (ai @XK<|ai @Ti<|ai @Tf<|ai @Tg<|ai @Tc<|ai @TF<|ai @HW<|ai @HZ<|ai @Nz<|ai @NC<|ai @DE<|ai @ND<|ai @NB<|ai @HK<|ai @Ny<|ai @Nx<|ai @NA<|ai @Oh<|ai @Oe<|ai @DV<|ai @Oi<|ai @Og<|ai @H4<|ai @Od<|ai @Oc<|ai @Of<|ai @Gv<|ai @zQ<|ai @zO<|ai @zP<|ai @LN<|ai @LO<|ai @XC<|ai @SS<|ai @XB<|ai @SR<|ai @L9<|ai @Ma<|ai @Mb<|ai @Lf<|ai @Gu<|ai @O8<|ai @IK<|ai @O9<|ai @IL<|ai @xD<|ai @Ha<|ai @xC<|ai @G9<|ai @S2<|ai @Ml<|ai @S0<|ai @G8<|@Mj):=⟨@XK,@Ti,@Tf,@Tg,@Tc,@TF,@HW,@HZ,@Nz,@NC,@DE,@ND,@NB,@HK,@Ny,@Nx,@NA,@Oh,@Oe,@DV,@Oi,@Og,@H4,@Od,@Oc,@Of,@Gv,@zQ,@zO,@zP,@LN,@LO,@XC,@SS,@XB,@SR,@L9,@Ma,@Mb,@Lf,@Gu,@O8,@IK,@O9,@IL,@xD,@Ha,@xC,@G9,@S2,@Ml,@S0,@G8,@Mj⟩
theorem v:type_of% (ai @vmc<|ai @vmk<|ai @vm1<|ai @vm2<|ai @vm3<|ai @vm4<|ai @vm5<|ai @vm6<|ai @vm7<|ai @vm8<|ai @aey<|ai @aeA<|ai @aeB<|ai @aeC<|ai @vmu<|ai @Option.toList_some.{0}<|@Option.toList_none.{0}):=⟨@vmc,@vmk,@vm1,@vm2,@vm3,@vm4,@vm5,@vm6,@vm7,@vm8,@aey,@aeA,@aeB,@aeC,@vmu,@Option.toList_some.{0},@Option.toList_none.{0}⟩
class wX (κ:Type) where
 k:κ->bV
 inj:∀x y,k x=k y->x=y
instance:wX Int:=⟨fun n=>(n,none),fun x y h=>by simpa using h⟩
instance:wX (Int×Int):=⟨fun p=>(p.1,some p.2),fun x y h=>by
 obtain⟨a,b⟩:=x
 obtain⟨c,d⟩:=y
 simpa using h⟩
def dm {κ α:Type} [wX κ]:List (κ×α)->List bV
 | []=>[]
 | (k,_)::m=>wX.k k::dm m
def fa {κ α:Type} (A:Arg α):List (κ×α)->List D
 | []=>[]
 | (_,v)::m=>A.d v::fa A m
theorem N2 {κ α:Type} {A:Arg α} : fa A ([]:List (κ×α))=[]:=aiu
section
variable {κ α:Type} [wX κ] {A:Arg α}
theorem Nh (k n:κ):wX.k k=wX.k n↔k=n:=⟨wX.inj _ _,fun h=>by rw[h]⟩
theorem N0:dm ([]:List (κ×α))=[]:=aiu
theorem DJ [DecidableEq κ] (n:κ):∀m:List (κ×α),(dm m).contains (wX.k n)=Vc m n
 | []=>rfl
 | (k,v)::m=>by
  have:=DJ n m
  simp only[dm,agT,Vc,this]
  congr 1
  by_cases h:k=n
  ·subst h;rw[beq_self_eq_true,beq_self_eq_true]
  ·rw[beq_eq_false_iff_ne.2 h,beq_eq_false_iff_ne.2 (fun e=>h (wX.inj _ _ e.symm))]
theorem NZ:∀m:List (κ×α),(dm m).length=m.length
 | []=>rfl
 | (k,v)::m=>by simp[dm,NZ m]
theorem HL [DecidableEq κ] (z:α) (n:κ):∀m:List (κ×α),og (A.d z) (dm m) (fa A m) (wX.k n)=A.d (tz z m n)
 | []=>rfl
 | (k,v)::m=>by
  simp only[dm,fa,og,tz,HL z n m,Nh]
  by_cases h:k=n<;>simp[h]
theorem OI [DecidableEq κ] (n:κ) (v:α):∀m:List (κ×α),wO (dm m) (wX.k n)=dm (Ko m n v)
 | []=>rfl
 | (k,x)::m=>by
  have ih:=OI n v m
  unfold wO at ih ⊢
  simp only[dm,Ko,agT]
  by_cases h:k=n
  ·subst h;simp[dm]
  ·have h1:(wX.k n==wX.k k)=false:=by simpa [Nh] using Ne.symm h
   rw[h1,agU,if_neg h]
   simp only[dm]
   rw[<- ih]
   cases (dm m).contains (wX.k n)<;>rfl
theorem OK [DecidableEq κ] (n:κ) (v:α):∀m:List (κ×α),Bq (dm m) (fa A m) (wX.k n) (A.d v)=fa A (Ko m n v)
 | []=>rfl
 | (k,x)::m=>by
  have ih:=OK n v m
  unfold Bq at ih ⊢
  simp only[dm,fa,Ko,agT]
  by_cases h:k=n
  ·subst h;simp[fa,agS]
  ·have h1:(wX.k n==wX.k k)=false:=by simpa [Nh] using Ne.symm h
   have h2:(wX.k k==wX.k n)=false:=by simpa [Nh] using h
   rw[h1,agU,if_neg h]
   simp only[fa,agS,h2,cond_false]
   rw[<- ih]
   cases (dm m).contains (wX.k n)<;>rfl
theorem map_inj:∀ {m m':List (κ×α)},dm m=dm m'->fa A m=fa A m'->m=m'
 | [],[],_,_=>rfl
 | [],(k,v)::m',h,_=>by simp[dm]at h
 | (k,v)::m,[],h,_=>by simp[dm]at h
 | (k,v)::m,(k',v')::m',h,g=>by
  simp only[dm,agf,Nh]at h
  simp only[fa,agf]at g
  rw[h.1,A.inj _ _ g.1,map_inj h.2 g.2]
end
theorem HC {α:Type} {n:Int} {m:List (Int×α)} : kS false (n,none) (dm m)=true:=by
 unfold kS
 simp only[agt]
 refine⟨rfl,?_⟩
 induction m with
 | nil=>rfl
 | cons p m ih=>simp only[dm,List.all_cons,agt];exact⟨rfl,ih⟩
theorem HD {α:Type} {a b:Int} {m:List ((Int×Int)×α)} : kS true (a,some b) (dm m)=true:=by
 unfold kS
 simp only[agt]
 refine⟨rfl,?_⟩
 induction m with
 | nil=>rfl
 | cons p m ih=>simp only[dm,List.all_cons,agt];exact⟨rfl,ih⟩
def eMp {κ α:Type} [wX κ] (A:Arg α):ij (List (κ×α)):=⟨fun m=>[.mpc (dm m) (fa A m)],1,fun _=>rfl,by decide,fun x y h=>by
 simp only[agf,D.mpc.injEq,and_true]at h
 exact map_inj h.1 h.2⟩
theorem Mc {κ α:Type} [wX κ] (A:Arg α):(eMp A:ij (List (κ×α))).size=1:=aiu
def mkM {κ ν α β:Type} [wX κ] (ty:Nat) (V:Arg ν) (A:jt α) (F:List (κ×ν)->α->Option (List (κ×ν)×β)) (R:β->RK):Option (D×Row)->List D->Option (RK×Option Row):=fun lent ds =>
 match lent with
 | some (.mp 0 0,⟨0,ty',[.mpc ks vs],false,true,true⟩)=>open Classical in
  if h:ty'=ty∧∃p:List (κ×ν)×α,ks=dm p.1∧vs=fa V p.1∧ds=A.ds p.2 then
   (F (Classical.choose h.2).1 (Classical.choose h.2).2).map fun r=>(R r.2,some ⟨0,ty,[.mpc (dm r.1) (fa V r.1)],false,true,true⟩)
  else none
 | _=>none
theorem acx {κ ν α β:Type} [wX κ] (ty:Nat) (V:Arg ν) (A:jt α) (F:List (κ×ν)->α->Option (List (κ×ν)×β)) (R:β->RK) (l:List (κ×ν)) (a:α) :
  mkM ty V A F R (some (.mp 0 0,⟨0,ty,[.mpc (dm l) (fa V l)],false,true,true⟩)) (A.ds a)=(F l a).map fun r=>(R r.2,some ⟨0,ty,[.mpc (dm r.1) (fa V r.1)],false,true,true⟩):=by
 have h:ty=ty∧∃p:List (κ×ν)×α,dm l=dm p.1∧fa V l=fa V p.1∧A.ds a=A.ds p.2:=⟨rfl,(l,a),rfl,rfl,rfl⟩
 simp only[mkM]
 rw[dif_pos h]
 obtain⟨h1,h2,h3⟩:=Classical.choose_spec h.2
 rw[<- A.inj _ _ h3,<- map_inj h1 h2]
theorem Ym {κ ν α β:Type} [wX κ] {ty:Nat} {V:Arg ν} {A:jt α} {F:List (κ×ν)->α->Option (List (κ×ν)×β)} {R:β->RK} {lent:Option (D×Row)} {ds:List D} {rk:RK} {out:Option Row} (h:mkM ty V A F R lent ds=some (rk,out)) :
  ∃l a l' r,lent=some (.mp 0 0,⟨0,ty,[.mpc (dm l) (fa V l)],false,true,true⟩)∧ds=A.ds a∧F l a=some (l',r)∧rk=R r∧out=some ⟨0,ty,[.mpc (dm l') (fa V l')],false,true,true⟩:=by
 unfold mkM at h
 split at h
 ·split at h
  ·rename_i he
   obtain⟨rfl,he⟩:=he
   rw[afP]at h
   obtain⟨⟨l',r⟩,h1,h2⟩:=h
   simp only[Prod.mk.injEq]at h2
   obtain⟨rfl,rfl⟩:=h2
   obtain⟨g1,g2,g3⟩:=Classical.choose_spec he
   refine⟨_,_,l',r,?_,g3,h1,rfl,rfl⟩
   rw[<- g1,<- g2]
  ·cases h
 ·cases h
theorem bP.Yb {P:Program} {T:Nat->Option Ty} {Γ:Env} (hT:gz P T) (hΓ:bA P Γ) (hm:P.follows .mixedOrders=true) {κ ν α β:Type} [wX κ] {ty:Nat} {V:Arg ν} {A:jt α} {F:List (κ×ν)->α->Option (List (κ×ν)×β)} {R:β->RK} {f:FuncId} {fn:Func} (hf:P.funcs[f]? = some fn) (hok:(match fn.body with|some c=>codeOk c|none=>true)=true)
  (hc:(fn.name == "runtime.NumGoroutine")=false∧fn.body.isNone=false) (hn:∀a,(A.ds a).length+1<=fn.ntmps)
  (h:∀l a l' r,F l a=some (l',r)->aW .clean T Γ FU fn (some (.mp 0 0,⟨0,ty,[.mpc (dm l) (fa V l)],false,true,true⟩)) (A.ds a)=some (R r,some ⟨0,ty,[.mpc (dm l') (fa V l')],false,true,true⟩)):bP P f (mkM ty V A F R) where
 calls lent afM rk out hg:=by
  obtain⟨l,a,l',r,rfl,rfl,hr,rfl,rfl⟩:=Ym hg
  exact iT hT hΓ hm hf hok (hn a) rfl (h l a l' r hr)
 callable:=⟨fn,hf,hc⟩
theorem PA {T:Nat->Option Ty} {Γ:Env} {F:Nat} {mode:Mode} {fn:Func} {c:Code} {n:Nat} {rs:List ResultVar} {d0:D} {ty:Nat} {cells:List D} {fz lst:Bool} {args:List D} {r:RK×Option Row} (hb:fn.body=some c) (hn:fn.ntmps=n) (hr:fn.results=rs.toArray)
  (hw:cA T Γ n F [.code c] (XI mode T (some (d0,⟨0,ty,cells,fz,lst,true⟩)) rs r) .normal (Fi (d0::args)) (lH ⟨0,ty,cells,fz,lst,true⟩) 1) (hpk:n<=1000000:=by exact ahB rfl):aW mode T Γ F fn (some (d0,⟨0,ty,cells,fz,lst,true⟩)) args=some r:=by
 refine RY ?_ (by rw[hn];exact hpk)
 unfold wpf
 rw[hb,hn,hr]
 exact hw
def aIp {α:Type} (e:ij α):Arg α:=⟨fun x =>.ip (e.cells x),fun x y h=>e.inj _ _ (by simpa using h)⟩
theorem abi {α:Type} (e:ij α) (x:α):(aIp e).d x=.ip (e.cells x):=aiu
section
variable {T:Nat->Option Ty} {h:Nat->Option Row} {Γ:Env} {e:Nat} {dst:Option Nat}
def lvM (v:Nat):Option Row->Option (List bV×List D)
 | some r=>if r.v=v∧r.mp=true∧r.ty<900000 then (match r.cells with | [.mpc ks vs]=>some (ks,vs)|_=>none) else none
 | none=>none
theorem Nt {x v:Nat} : gh h x v=lvM v (h x):=by
 unfold gh lvM
 cases h x<;>rfl
theorem NG {v ty:Nat} {ks:List bV} {vs:List D} {fz lst:Bool} (hty:ty<900000):lvM v (some ⟨v,ty,[.mpc ks vs],fz,lst,true⟩)=some (ks,vs):=by simp[lvM,hty]
def lkK (ks:List bV) (n:bV):Bool:=ks.contains n
theorem Tr {α:Type} {m:List (Int×α)} {n:Int} : lkK (dm m) (n,none)=Vc m n:=DJ n m
theorem Ts {α:Type} {m:List ((Int×Int)×α)} {a b:Int} : lkK (dm m) (a,some b)=Vc m (a,b):=DJ (a,b) m
def lkE (b ok:Bool) (z:D) (n:bV):Option (List bV×List D)->Option bu
 | some (ks,vs)=>if kS b n ks=true then some ⟨if ok then .tup [og z ks vs n,.bool (lkK ks n)] else og z ks vs n,[]⟩ else none
 | none=>none
theorem abJ {b:Bool} {z:D} {n:bV} {ks:List bV} {vs:List D} : lkE b true z n (some (ks,vs))=if kS b n ks=true then some ⟨.tup [og z ks vs n,.bool (lkK ks n)],[]⟩ else none:=aiu
theorem abI {b:Bool} {z:D} {n:bV} {ks:List bV} {vs:List D} : lkE b false z n (some (ks,vs))=if kS b n ks=true then some ⟨og z ks vs n,[]⟩ else none:=aiu
def UF (T:Nat->Option Ty) (τ:Ty) (b:Bool) (d:D):Prop:=∃φ z,DK T τ=some (b,φ)∧iL φ (φ.zero.map lh)=some z∧(φ.zero.map lh).all aS=true∧e8 z=d
theorem acu {τ:Ty} {b:Bool} {d:D} (hz:UF T τ b d) {m i:D} {n:bV} {ok:Bool} (hi:Vf i=some n):fv T τ h m i ok=lkE b ok d n (mapOf h m):=by
 obtain⟨φ,z,h1,h2,h3,rfl⟩:=hz
 simp only[fv,h1,hi,lkE,lkK]
 cases mapOf h m with
 | none=>rfl
 | some p=>obtain⟨ks,vs⟩:=p;simp only[h2,h3,and_true]
theorem N1 {x v:Nat} : mapOf h (.mp x v)=gh h x v:=aiu
theorem HN {ks:List bV} {vs:List D} : mapOf h (.mpc ks vs)=some (ks,vs):=aiu
def muR (b:Bool) (h:Nat->Option Row) (y:Nat) (n:bV) (d:D) (fr:List Nat) (ks:List bV) (vs:List D):Option Row->Option bu
 | some r=>if kS b n ks=true∧r.fz=false∧fr.contains y=false then some ⟨.und,gP h fr++[(y,some ⟨r.v,r.ty,[.mpc (wO ks n) (Bq ks vs n d)],false,true,true⟩)]⟩ else none
 | none=>none
theorem N7 {b:Bool} {y v ty:Nat} {n:bV} {d:D} {fr:List Nat} {ks:List bV} {vs:List D} {cells:List D} {lst mp:Bool} : muR b h y n d fr ks vs (some ⟨v,ty,cells,false,lst,mp⟩)=if kS b n ks=true then (if fr.contains y=false then some ⟨.und,gP h fr++[(y,some ⟨v,ty,[.mpc (wO ks n) (Bq ks vs n d)],false,true,true⟩)]⟩ else none) else none:=by
 simp only[muR,true_and]
 by_cases h1:kS b n ks=true<;>simp[h1]
def muM (b:Bool) (h:Nat->Option Row) (y:Nat) (n:bV) (d:D) (fr:List Nat):Option (List bV×List D)->Option bu
 | some (ks,vs)=>muR b h y n d fr ks vs (h y)
 | none=>none
theorem N6 {b:Bool} {y:Nat} {n:bV} {d:D} {fr:List Nat} {ks:List bV} {vs:List D} : muM b h y n d fr (some (ks,vs))=muR b h y n d fr ks vs (h y):=aiu
def muE (b:Bool) (h:Nat->Option Row) (y v:Nat) (n:bV):Option (D×List Nat)->Option bu
 | some (d,fr)=>muM b h y n d fr (gh h y v)
 | none=>none
theorem N5 {b:Bool} {y v:Nat} {n:bV} {d:D} {fr:List Nat} : muE b h y v n (some (d,fr))=muM b h y n d fr (gh h y v):=aiu
theorem acz {τ:Ty} {b:Bool} {d:D} (hz:UF T τ b d) {y v:Nat} {n:bV} {i x:D} (hi:Vf i=some n):cj T τ h (.mp y v) i x=muE b h y v n (sC h x):=by
 obtain⟨φ,z,h1,_⟩:=hz
 simp only[cj,h1,hi]
 cases sC h x with
 | none=>rfl
 | some p =>
  obtain⟨d,fr⟩:=p
  simp only[muE]
  cases hl:gh h y v with
  | none=>simp only[muM];cases h y<;>rfl
  | some q =>
   obtain⟨ks,vs⟩:=q
   simp only[muM]
   cases h y<;>rfl
def lnE:Option (List bV×List D)->Option bu
 | some (ks,_)=>some ⟨.int .i64 (ks.length:Nat),[]⟩
 | none=>none
theorem Nw {ks:List bV} {vs:List D} : lnE (some (ks,vs))=some ⟨.int .i64 (ks.length:Nat),[]⟩:=aiu
theorem HM {κ α:Type} [wX κ] {m:List (κ×α)} : (dm m).length=m.length:=NZ m
theorem Px {k:IntKind} {n:Int} : sC h (.int k n)=some (.int k n,[]):=aiu
theorem Ja {b:Bool} : sC h (.bool b)=some (.bool b,[]):=aiu
theorem Pw {xs:List D} : sC h (.agg xs)=some (.agg (xs.map canon),[]):=aiu
theorem aaL {τ:Ty} {b:Bool} {d:D} (hz:UF T τ b d) {ty d':Nat} (hty:ty<900000):VQ T (some τ) ty e d'=some ⟨.mp d' e,[(d',some ⟨e,ty,[.mpc [] []],false,true,true⟩)]⟩:=by
 obtain⟨φ,z,h1,_⟩:=hz
 exact Yq h1 hty
def ldP (τ:Ty) (h:Nat->Option Row) (x v y:Nat):Option Row->Option bu
 | some r=>match r.cells with
  | [.alm y' v']=>if r.fz=true∧r.lst=false∧τ.size=1∧τ.ds.nn=false then some ⟨.mp y' v',[]⟩ else none
  | _=>none
 | none=>nW τ h x v y (kp h x v)
theorem abu {τ:Ty} {x v y:Nat} : mf τ h (.pm x v y)=ldP τ h x v y (live h x v):=by
 simp only[mf]
 cases live h x v with
 | none=>rfl
 | some r =>
  obtain⟨v',ty,cells,fz,lst,mp⟩:=r
  rcases cells with _|⟨c,_|⟨c',cs⟩⟩<;>rfl
theorem No {τ:Ty} {x v y:Nat} : ldP τ h x v y none=nW τ h x v y (kp h x v):=aiu
def ldQ (τ:Ty) (h:Nat->Option Row) (x y s n:Nat):Option Row->Option bu
 | some r=>if y=1000000+x∧r.mp=false∧r.lst=true∧r.cells.length=n*s∧τ.size=1 then some ⟨if τ.ds.nn then .agg [.sl false false n r.cells] else .sl false false n r.cells,gP h [y]⟩ else none
 | none=>none
theorem X7 {τ:Ty} {r:Row} {x v y s n:Nat} : nW τ h x v y (some (r,y,s,n))=ldQ τ h x y s n (h y):=by
 simp only[nW,ldQ,PK]
 cases h y with
 | none=>rfl
 | some q=>simp
theorem Nq {ty b:Nat} {ds:Ds} {z:List Value} {q:Bool} {x y s n e':Nat} {cells:List D} {fz:Bool} : ldQ ⟨ds,1,b,z,q⟩ h x y s n (some ⟨e',ty,cells,fz,true,false⟩)=if y=1000000+x∧cells.length=n*s then some ⟨if ds.nn then .agg [.sl false false n cells] else .sl false false n cells,gP h [y]⟩ else none:=by
 simp[ldQ]
def ack (T:Nat->Option Ty) (x v k:Nat):Option (Row×Nat×Nat×Nat)->Option (Nat×Nat)->Option bu
 | some _,some (ft,0)=>match T ft with|some φ=>if φ.size=0 then none else some ⟨.pm x v k,[]⟩|none=>none
 | _,_=>none
theorem Ht {T:Nat->Option Ty} {x v k ft:Nat} {r:Row×Nat×Nat×Nat} : ack T x v k (some r) (some (ft,0))=match T ft with|some φ=>if φ.size=0 then none else some ⟨.pm x v k,[]⟩|none=>none:=aiu
theorem XN {T:Nat->Option Ty} {b c:Nat} {z:List Value} {q:Bool} {fs:List (Nat×Nat)} {x v k i:Nat} : dD T ⟨.struct fs,b,c,z,q⟩ h i (.pm x v k)=ack T x v k (kp h x v) fs[i]?:=by
 simp only[dD,ack]
 cases kp h x v with
 | none=>rfl
 | some r=>simp only;generalize fs[i]? = z;rcases z with _|⟨ft,_|off⟩<;>first|rfl|(simp;done)|(simp only;cases T ft<;>rfl)
def T5 (x y s oy n k : Nat) : Option Row -> Option Row -> Option bu
  | some r, some q => if oy = 0 ∧ r.cells.length = 1 ∧ r.fz = false ∧ r.lst = false ∧ q.fz = false ∧ q.lst = true ∧ q.cells.length = n * s ∧ x ≠ y ∧ k = 1000000 + x ∧ x < 1000000 then
          some ⟨.und, [(y, none), (k, some ⟨0, q.ty, q.cells, false, true, false⟩), (x, some ⟨r.v, r.ty, [.ph k s n], false, false, true⟩)]⟩ else none
  | _, _ => none
theorem Zl {ds:Ds} {b:Nat} {z:List Value} {q:Bool} {x v y vy s oy n k:Nat} : cJ ⟨ds,1,b,z,q⟩ h (.pm x v k) (.box1 y vy s oy n)=T5 x y s oy n k (live h x v) (live h y vy):=by
 simp only[cJ,T5,PK,true_and]
 cases live h x v with
 | none=>rfl
 | some r=>cases live h y vy<;>rfl
theorem ET {x y s oy n k v ty e' ty':Nat} {c:D} {cells:List D} : T5 x y s oy n k (some ⟨v,ty,[c],false,false,false⟩) (some ⟨e',ty',cells,false,true,false⟩)=if oy=0∧cells.length=n*s∧¬x=y∧k=1000000+x∧x<1000000 then
  some ⟨.und,[(y,none),(k,some ⟨0,ty',cells,false,true,false⟩),(x,some ⟨v,ty,[.ph k s n],false,false,true⟩)]⟩ else none:=by
 simp[T5]
theorem Np {v ty y' v':Nat} {b k el:Nat} {z:List Value} {q mp:Bool} {x0 v0 y0:Nat} : ldP ⟨.map k el,1,b,z,q⟩ h x0 v0 y0 (some ⟨v,ty,[.alm y' v'],true,false,mp⟩)=some ⟨.mp y' v',[]⟩:=by
 simp[ldP,Ds.nn]
def aa1 (τ:Ty) (x y y' v':Nat) (m:Bool):Option Row->Option bu
 | some r=>if τ.size=1∧y'=y∧r.cells.length=1∧r.fz=false∧r.lst=false∧m then some ⟨.und,[(x,some ⟨r.v,r.ty,[.alm y' v'],true,false,false⟩)]⟩ else none
 | none=>none
theorem Zj {τ:Ty} {x v y y' v':Nat} : cJ τ h (.pm x v y) (.mp y' v')=aa1 τ x y y' v' (gh h y v').isSome (live h x v):=by
 simp only[cJ,aa1]
 cases live h x v<;>rfl
theorem I2 {x y v' v ty:Nat} {c:D} {b:Nat} {ds:Ds} {z:List Value} {q mp:Bool} : aa1 ⟨ds,1,b,z,q⟩ x y y v' true (some ⟨v,ty,[c],false,false,mp⟩)=some ⟨.und,[(x,some ⟨v,ty,[.alm y v'],true,false,false⟩)]⟩:=by
 simp[aa1]
theorem abL {x v:Nat} : nm (.mp x v)=[x]:=aiu
theorem Yw {ks:List bV} {vs:List D} : nm (.mpc ks vs)=[]:=aiu
theorem abM {x v y:Nat} : nm (.pm x v y)=[x,y]:=aiu
def clM (x:Nat):Option (List bV×List D)->Option (D×List Nat)
 | some (ks,vs)=>some (.mpc ks vs,[x])
 | none=>none
theorem LC {x:Nat} {ks:List bV} {vs:List D} : clM x (some (ks,vs))=some (.mpc ks vs,[x]):=aiu
theorem SJ {x v:Nat} : bE h (.mp x v)=clM x (gh h x v):=by
 simp only[bE,aP,clM]
 cases gh h x v<;>rfl
theorem Lu {ks:List bV} {vs:List D} : bE h (.mpc ks vs)=some (.mpc ks vs,[]):=aiu
theorem W9 {x v:Nat} : aP h (.mp x v)=clM x (gh h x v):=by
 simp only[aP,clM]
 cases gh h x v<;>rfl
theorem SE {ks:List bV} {vs:List D} : aP h (.mpc ks vs)=some (.mpc ks vs,[]):=aiu
theorem W8 {xs:List D} : aP h (.ip xs)=some (.ip xs,[]):=aiu
theorem SF {x v o:Nat} : aP h (.ptr x v o)=clP x o (live h x v):=by
 simp only[aP]
 cases live h x v with
 | none=>rfl
 | some r=>simp only[clP]
def clN (x y:Nat):Option (List bV×List D)->Option (D×List Nat)
 | some (ks,vs)=>some (.ip [.mpc ks vs],[x,y])
 | none=>none
theorem LD {x y:Nat} {ks:List bV} {vs:List D} : clN x y (some (ks,vs))=some (.ip [.mpc ks vs],[x,y]):=aiu
def clQ (h:Nat->Option Row) (x y:Nat):Option Row->Option (D×List Nat)
 | some r=>match r.cells with
  | [.alm y' v']=>if r.fz=true∧r.lst=false∧y'=y then clN x y (gh h y v') else none
  | _=>none
 | none=>none
theorem LI {x y v' v ty:Nat} {mp:Bool} : clQ h x y (some ⟨v,ty,[.alm y v'],true,false,mp⟩)=clN x y (gh h y v'):=by
 simp[clQ]
theorem Xa {x v y:Nat} : aP h (.pm x v y)=clQ h x y (live h x v):=by
 simp only[aP]
 cases live h x v with
 | none=>rfl
 | some r =>
  obtain⟨v',ty,cells,fz,lst,mp⟩:=r
  rcases cells with _|⟨c,_|⟨c',cs⟩⟩<;>rfl
theorem TL {x v o:Nat} : iE (.ptr x v o)=true:=aiu
theorem YE {x v y:Nat} : iE (.pm x v y)=true:=aiu
theorem YC {xs:List D} : iE (.ip xs)=true:=aiu
theorem YD {x v:Nat} : iE (.mp x v)=true:=aiu
theorem TK {ks:List bV} {vs:List D} : iE (.mpc ks vs)=true:=aiu
theorem XR {v ty:Nat} {cells:List D} {fz mp:Bool} : pW ⟨v,ty,cells,fz,true,mp⟩=⟨v,ty,cells,true,true,mp⟩:=by cases fz<;>rfl
theorem Te {d:Nat} : a7.hint d=none:=aiu
theorem MV {f:Nat} {l:Bool} {G:Option (D×Row)->List D->Option (RK×Option Row)} {d:Nat} : (Am.ext Γ f l G).hint d=Γ.hint d:=aiu
theorem HA {d i:Nat} : (Am.keep d Γ).hint i=Γ.hint i:=aiu
theorem Hz {d y i:Nat} : (Am.vV d y Γ).hint i=if i=d then some y else Γ.hint i:=aiu
theorem MZ {d y i:Nat} : (Am.vV d y Γ).own i=Γ.own i:=aiu
theorem Dp {d y i:Nat} : (Am.vV d y Γ).lends i=Γ.lends i:=aiu
theorem M0 {d y i:Nat} {lent:Option (D×Row)} {afM:List D} : (Am.vV d y Γ).sem i lent afM=Γ.sem i lent afM:=aiu
theorem Hs {ks:List bV} {vs:List D} : fK (.mpc ks vs)=false:=aiu
theorem Gz {ks:List bV} {vs:List D} : canon (.mpc ks vs)=.mpc ks vs:=aiu
theorem Cj {ks:List bV} {vs:List D} : e8 (.mpc ks vs)=.mpc ks vs:=aiu
end
structure sr {α:Type} (E:ij α) (C:List D) (o:Nat) (l:List α):Prop where
 fit:o+l.length*E.size<=C.length
 eq:(C.drop o).take (l.length*E.size)=ab E l
theorem sr.self {α:Type} (E:ij α) (l:List α):sr E (ab E l) 0 l:=⟨by rw[bx];omega,by rw[ahj,<- bx,ahS]⟩
theorem sr.split {α:Type} {E:ij α} {C:List D} {o:Nat} {l:List α} (F:sr E C o l):C.drop o=ab E l++C.drop (o+l.length*E.size):=by
 rw[<- ahF]
 conv=>lhs;rw[<- ahG (l.length*E.size) (C.drop o)]
 rw[F.eq]
theorem sr.idx {α:Type} {E:ij α} {C:List D} {o:Nat} {l:List α} {i:Int} {x:α} (F:sr E C o l) (h:P.idx l i=some x):o+i.toNat*E.size+E.size<=C.length∧∃rest,C.drop (o+i.toNat*E.size)=E.cells x++rest:=by
 have h1:=rv E h
 have h2:=F.fit
 refine⟨by omega,ab E (l.drop (i.toNat+1))++C.drop (o+l.length*E.size),?_⟩
 rw[<- ahF,F.split,ahe (by rw[bx];omega),BE E h,ahd]
theorem sr.tail {α:Type} {E:ij α} {C:List D} {o:Nat} {l m:List α} {a:Int} (F:sr E C o l) (h:Bv l a (l.length:Int)=some m):sr E C (o+a.toNat*E.size) m:=by
 obtain⟨h1,h2,h3,h4,h5⟩:=Y0 E h
 have h6:=F.fit
 have h7:a.toNat*E.size+m.length*E.size=l.length*E.size:=by rw[<- ag5];congr 1;omega
 refine⟨by omega,?_⟩
 rw[<- ahF,F.split,ahe (by rw[bx];omega),ahh (by rw[agb,bx];omega),h5]
theorem aeD:type_of% (ai @N0<|ai @N2<|ai @Nt<|ai @NG<|ai @Tr<|ai @Ts<|ai @HC<|ai @HD<|ai @Nw<|ai @HM<|ai @abJ<|ai @abI<|ai @N1<|ai @HN<|ai @N7<|ai @N6<|ai @N5<|ai @Px<|ai @Ja<|ai @Pw<|ai @abu<|ai @Np<|ai @Zj<|ai @I2<|ai @abL<|ai @Yw<|@abM):=⟨@N0,@N2,@Nt,@NG,@Tr,@Ts,@HC,@HD,@Nw,@HM,@abJ,@abI,@N1,@HN,@N7,@N6,@N5,@Px,@Ja,@Pw,@abu,@Np,@Zj,@I2,@abL,@Yw,@abM⟩
theorem aeE:type_of% (ai @LC<|ai @SJ<|ai @Lu<|ai @W9<|ai @SE<|ai @W8<|ai @SF<|ai @LD<|ai @LI<|ai @Xa<|ai @TL<|ai @YE<|ai @YC<|ai @YD<|ai @TK<|ai @XS<|ai @XQ<|ai @XR<|ai @Te<|ai @MV<|ai @HA<|ai @Hz<|ai @MZ<|ai @Dp<|ai @M0<|ai @Ig<|ai @Ie<|ai @Hs<|ai @Gz<|ai @Cj<|ai @Mc<|@abi):=⟨@LC,@SJ,@Lu,@W9,@SE,@W8,@SF,@LD,@LI,@Xa,@TL,@YE,@YC,@YD,@TK,@XS,@XQ,@XR,@Te,@MV,@HA,@Hz,@MZ,@Dp,@M0,@Ig,@Ie,@Hs,@Gz,@Cj,@Mc,@abi⟩
theorem aeF:type_of% (ai @zX<|ai @z7<|ai @Cw<|ai @Cz<|ai @vM<|ai @vQ<|ai @Cv<|ai @Cy<|ai @wh<|ai @yG<|ai @so<|ai @yF<|ai @WQ<|ai @Sn<|@WR):=⟨@zX,@z7,@Cw,@Cz,@vM,@vQ,@Cv,@Cy,@wh,@yG,@so,@yF,@WQ,@Sn,@WR⟩
theorem bP.gr {P:Program} {T:Nat->Option Ty} {Γ:Env} (hT:gz P T) (hΓ:bA P Γ) (hm:P.follows .mixedOrders=true) {α β:Type} {A:jt α} {F:α->Option β} {R:β->RK} {mode:Mode} {f:FuncId} {fn:Func} (hf:P.funcs[f]? = some fn)
  (hok:((match fn.body with|some c=>codeOk c|none=>true)&&(!(fn.name == "runtime.NumGoroutine") && !fn.body.isNone))=true) (hn:∀a,Nat.ble (A.ds a).length fn.ntmps=true) (h:∀a r,F a=some r->aW mode T Γ FU fn none (A.ds a)=some (R r,none)):bP P f (fb A F R):=by
 rw[agt,agt]at hok
 exact bP.of hT hΓ hm hf hok.1 ⟨by simpa using hok.2.1,by simpa using hok.2.2⟩ (fun a=>ahB (hn a)) h
theorem aez:type_of% (ai @No<|ai @X7<|ai @Nq<|ai @Zl<|ai @ET<|ai @Ht<|@XN):=⟨@No,@X7,@Nq,@Zl,@ET,@Ht,@XN⟩
theorem vi:type_of% (ai @aeD<|ai @aeE<|ai @aez<|@aeF):=⟨@aeD,@aeE,@aez,@aeF⟩
def adm (P:Program) (f:FuncId):Prop:=∀(blk off cap:Nat) (zs:List Int) (w:World),Go.Sort.Holds (Value.int .i64) w blk off zs.toArray->blk<w.heap.size->zs.length<4611686018427387904 ->
 Calls P f #[.slice (some ⟨blk,off,none⟩) zs.length cap] w fun e w'=>e=.returned (.tuple #[])∧∃n os,w'=Go.Sort.grow (Go.Sort.putRow (Value.int .i64) (Go.Sort.ahead w n) blk off (A0 zs).toArray) os
theorem tj (k:IntKind):∀(l:List Int) (j:Nat),(ab (eI k) l)[j]? = l[j]?.map fun n =>.int k n
 | [],j=>by simp[ab]
 | x::l,0=>by simp[ab,eI]
 | x::l,j+1=>by
  have:=tj k l j
  simp only[ab,xr,List.cons_append,List.nil_append,List.getElem?_cons_succ]
  exact this
theorem mY (k:IntKind) (l:List Int):(ab (eI k) l).length=l.length:=by rw[bx];show l.length*1=_;omega
theorem OJ {w:World} {b off:Nat} {d:List Int} {cs:Array Value} {ty:Nat} {fr:Nat×Nat} (h:w.heap[b]? = some (.cells cs ty fr)):(Go.Sort.putRow (Value.int .i64) w b off d.toArray).heap[b]? = some (.cells (Go.Sort.putCells (Value.int .i64) off d.toArray cs) ty fr):=by
 simp[Go.Sort.putRow,Go.Sort.mapBlock,af1,h,Go.Sort.onCells]
theorem Eo {w:World} {b c off:Nat} {d:List Int} (h:c≠b):(Go.Sort.putRow (Value.int .i64) w b off d.toArray).heap[c]? = w.heap[c]?:=by
 simp[Go.Sort.putRow,Go.Sort.mapBlock,af1,Ne.symm h]
theorem Kl {off:Nat} {d:List Int} {cs:Array Value} {k:Nat} (hk:k<cs.size):(Go.Sort.putCells (Value.int .i64) off d.toArray cs).getD k undef=if off<=k∧k<off+d.length then .int .i64 (d.getD (k-off) 0) else cs.getD k undef:=by
 have h1:(Go.Sort.putCells (Value.int .i64) off d.toArray cs)[k]? = some (if off<=k∧k<off+d.length then .int .i64 (d.getD (k-off) 0) else cs[k]):=by
  simp only[Go.Sort.putCells,Array.getElem?_mapIdx,ag2 hk,Option.map_some,ahb]
  congr 1
  split
  ·rename_i hc
   congr 1
   have:k-off<d.length:=by omega
   simp[List.getD,this]
  ·rfl
 rw[afW,h1]
 simp[afW,hk]
end Go.Proofs.YtmcncjgbkobjnaaGreat.Am
namespace Go.Proofs.YtmcncjgbkobjnaaGreat.P
open Go.RowKit
theorem wrap64 {x:Int} (h1 : -9223372036854775808<=x) (h2:x<9223372036854775808):IntKind.i64.wrap x=x:=by
 have key:IntKind.i64.wrap x=if x % 18446744073709551616>=9223372036854775808 then x % 18446744073709551616-18446744073709551616 else x % 18446744073709551616:=by
  unfold IntKind.wrap
  by_cases h:x % 18446744073709551616>=9223372036854775808
  ·rw[if_pos h];exact if_pos (by simpa [IntKind.bits,IntKind.signed] using h)
  ·rw[if_neg h];exact if_neg (by simpa [IntKind.bits,IntKind.signed] using h)
 rw[key]
 split<;>omega
theorem M4 {α:Type} {l:List α} {i:Int} {x:α} (h0:0<=i) (h:l[i.toNat]? = some x):P.idx l i=some x:=by
 have:=(agl.1 h).1
 unfold P.idx
 rw[if_pos ⟨h0,by omega⟩,h]
theorem cN {α:Type} {l:List α} {i:Nat} (h:i<l.length):P.idx l (i:Int)=some (l[i]):=M4 (by omega) (by simp[h])
theorem aaY {α:Type} {l:List α} {i:Nat} (h:i<=l.length):Bv l 0 (i:Int)=some (l.take i):=by
 unfold Bv
 rw[if_pos ⟨by omega,by omega,by omega⟩]
 simp
end Go.Proofs.YtmcncjgbkobjnaaGreat.P
namespace Go.Proofs.YtmcncjgbkobjnaaGreat.Am
open Go.RowKit Go.Deep Go.ChangeShapes Go.WideShapes
def Fc (T:Nat->Option Ty):Nat->Nat->List D->Prop
 | 0,_,_=>False
 | n+1,t,xs =>
  match T t with
  | none=>False
  | some τ=>xs.length=τ.size ∧
   match τ.ds with
   | .int k=>∃i,xs=[.int k i]∧(Lit.int k i).wf=true
   | .bool=>∃b,xs=[.bool b]
   | .str=>∃s:ByteArray,xs=[.str s]∧s.size<=140737488351232
   | .slice e=>∃len ys φ,xs=[.sl false false len ys]∧len*φ.bytes<=140737488351232∧T e=some φ∧ys.length=len*φ.size∧∀i,i<len->Fc T n e ((ys.drop (i*φ.size)).take φ.size)
   | .struct fs=>∀f∈fs,∃φ,T f.1=some φ∧Fc T n f.1 ((xs.drop f.2).take φ.size)
   | .arr m e=>∃φ,T e=some φ∧∀i,i<m->Fc T n e ((xs.drop (i*φ.size)).take φ.size)
   | .map _ _=>False
   | .other=>False
def Aw (T:Nat->Option Ty):Nat->List (Nat×Nat)->Nat->Bool
 | o,[],z=>o==z
 | o,(ft,off)::fs,z=>off==o&&match T ft with|some φ=>Aw T (o+φ.size) fs z|none=>false
def VT (T:Nat->Option Ty):Nat->Nat->Bool
 | 0,_=>false
 | n+1,t =>
  match T t with
  | none=>false
  | some τ =>
   match τ.ds with
   | .int _ | .bool | .str=>τ.size==1
   | .slice e=>τ.size==1&&VT T n e&&(match T e with|some φ=>decide (0<φ.size)|none=>false)
   | .struct fs=>Aw T 0 fs τ.size&&fs.all fun f=>VT T n f.1
   | .arr m e=>VT T n e&&(match T e with|some φ=>τ.size==m*φ.size|none=>false)
   | .map _ _=>false
   | .other=>false
def lp (w:World) (M:Nat->Prop) (xs:List D) (cs:List Value):Prop:=xs.length=cs.length∧∀(j:Nat) (x:D),xs[j]? = some x->aS x=true∧∃v,cs[j]? = some v∧RP w M x v
theorem lp.append {w:World} {M:Nat->Prop} {xs ys:List D} {cs ds:List Value} (h:lp w M xs cs) (k:lp w M ys ds):lp w M (xs++ys) (cs++ds):=by
 refine⟨by simp[h.1,k.1],fun j x hj =>?_⟩
 rw[agz]at hj ⊢
 rw[<- h.1]
 split at hj
 ·rename_i hlt;rw[if_pos hlt];exact h.2 j x hj
 ·rename_i hlt;rw[if_neg hlt];exact k.2 _ x hj
theorem C6 {α:Type} (s:Nat):∀(ls:List (List α)),(∀l∈ls,l.length=s)->∀(i:Nat) (l:List α),ls[i]? = some l->(ls.flatten.drop (i*s)).take s=l
 | [],_,i,l,h=>by simp at h
 | a::ls,hl,0,l,h=>by
  simp only[List.getElem?_cons_zero,af0]at h
  subst h
  have:a.length=s:=hl a (by simp)
  simp[this]
 | a::ls,hl,i+1,l,h=>by
  have ha:a.length=s:=hl a (by simp)
  rw[List.flatten_cons,ahC,ahD (by rw[ha,agO];omega),ahA,ha,agO,ahE]
  exact C6 s ls (fun x hx=>hl x (ahp _ hx)) i l h
theorem Mu {α:Type} (s:Nat):∀(ls:List (List α)),(∀l∈ls,l.length=s)->ls.flatten.length=ls.length*s
 | [],_=>by simp
 | a::ls,hl=>by
  rw[List.flatten_cons,ag1,Mu s ls (fun x hx=>hl x (ahp _ hx)),hl a (by simp),agi,agO]
  omega
section
variable {H:Type} {enc:TypeId×Value->H} {P:Program} {w:World} {base:Nat} {spare:Nat->Bool} {held:Bool} {T:Nat->Option Ty}
theorem de.bytesOf {P:Program} {t:Nat} {τ:Ty} (h:de P t τ):P.bytesOf t=τ.bytes:=by
 have:=h.info
 unfold Program.bytesOf
 cases hi:P.info? t with
 | none=>rw[hi]at this;simp at this
 | some i=>rw[hi]at this;simp only[Option.map_some,af0,Prod.mk.injEq]at this;simp[this.2.1]
def Reach (P:Program) (t:Nat) (d:DataW H):Prop:=∀k∈d.weights P t,k<=140737488351232
theorem zo {e:TypeId} : ∀(l:List (DataW H)) (j:Nat) (d:DataW H),l[j]? = some d->∀k∈d.weights P e,k∈DataW.weightsAll P e l
 | x::l,0,d,h,k,hk=>by
  simp only[List.getElem?_cons_zero,af0]at h
  subst h
  simp only[DataW.weightsAll,ag7]
  exact .inl hk
 | x::l,j+1,d,h,k,hk=>by
  simp only[DataW.weightsAll,ag7]
  exact .inr (zo l j d (by simpa using h) k hk)
 | [],j,d,h,k,hk=>by simp at h
theorem de.cells {P:Program} {t:Nat} {τ:Ty} (h:de P t τ):P.cellsOf t=τ.size:=by
 have:=h.info
 unfold Program.cellsOf
 cases hi:P.info? t with
 | none=>rw[hi]at this;simp at this
 | some i=>rw[hi]at this;simp only[Option.map_some,af0,Prod.mk.injEq]at this;simp[this.1]
theorem Tl {T:Nat->Option Ty} {w:World} {M:Nat->Prop} {cs:List Value} : ∀(fs:List (Nat×Nat)) (o z:Nat) (f:Nat×Nat->List D),Aw T o fs z=true->cs.length=z ->
  (∀p∈fs,∃φ,T p.1=some φ∧lp w M (f p) ((cs.drop p.2).take φ.size))->o<=z->∃xs,lp w M xs (cs.drop o)∧∀p∈fs,∃φ,T p.1=some φ∧o<=p.2∧(xs.drop (p.2-o)).take φ.size=f p
 | [],o,z,f,hl,hc,_,_=>by
  simp only[Aw,beq_iff_eq]at hl
  refine⟨[],⟨by rw[agb,hc,hl];simp,fun j x hj=>by simp at hj⟩,fun p hp=>by simp at hp⟩
 | (ft,off)::fs,o,z,f,hl,hc,hp,hoz=>by
  simp only[Aw,agt,beq_iff_eq]at hl
  obtain⟨rfl,hl⟩:=hl
  obtain⟨φ,hφ,hR⟩:=hp (ft,off) (by simp)
  simp only[hφ]at hl
  have hz:off+φ.size<=z:=by
   have:∀(fs:List (Nat×Nat)) (o:Nat),Aw T o fs z=true->o<=z:=by
    intro fs
    induction fs with
    | nil=>intro o h;simp only[Aw,beq_iff_eq]at h;omega
    | cons p fs ih =>
     intro o h
     obtain⟨a,b⟩:=p
     simp only[Aw,agt]at h
     have h2:=h.2
     split at h2
     ·have:=ih _ h2;omega
     ·cases h2
   exact this fs _ hl
  obtain⟨xs,hx,hxs⟩:=Tl fs (off+φ.size) z f hl hc (fun p h=>hp p (ahp _ h)) hz
  have hfl:(f (ft,off)).length=φ.size:=by
   rw[hR.1,aga,agb,hc];omega
  refine⟨f (ft,off)++xs,?_,fun p h =>?_⟩
  ·have:=hR.append hx
   rw[<- ahF,ahG]at this
   exact this
  ·rcases afY.1 h with rfl|h
   ·exact⟨φ,hφ,afR _,by simp only[ag3,ahj];rw[ahh (by omega),ahi (by omega)]⟩
   ·obtain⟨ψ,h1,h2,h3⟩:=hxs p h
    refine⟨ψ,h1,by omega,?_⟩
    rw[ahC,ahD (by omega),ahA,hfl]
    have:p.2-off-φ.size=p.2-(off+φ.size):=by omega
    rw[this,h3]
theorem lp.one {w:World} {M:Nat->Prop} {x:D} {v:Value} (hp:aS x=true) (h:RP w M x v):lp w M [x] [v]:=by
 refine⟨rfl,fun j y hj =>?_⟩
 match j,hj with
 | 0,hj=>simp only[List.getElem?_cons_zero,af0]at hj;subst hj;exact⟨hp,v,rfl,h⟩
 | j+1,hj=>simp at hj
theorem lp.flat {w:World} {M:Nat->Prop} {cs:List Value} {s:Nat} : ∀(ls:List (List D)) (o:Nat),(∀(i:Nat) l,ls[i]? = some l->lp w M l ((cs.drop (o+i*s)).take s))->(∀l∈ls,l.length=s)->lp w M ls.flatten ((cs.drop o).take (ls.length*s))
 | [],o,_,_=>⟨by simp,fun j x hj=>by simp at hj⟩
 | a::ls,o,h,hl=>by
  have h0:=h 0 a rfl
  have h1:=lp.flat ls (o+s) (fun i l hi=>by
   have:=h (i+1) l (by simpa using hi)
   rw[agO]at this
   rw[show o+s+i*s=o+(i*s+s) by omega]
   exact this) (fun l hx=>hl l (ahp _ hx))
  have:=h0.append h1
  rw[Nat.zero_mul,agr]at this
  rw[List.flatten_cons,agi,agO,Nat.add_comm (ls.length*s) s,List.take_add,ahF]
  exact this
theorem aca (hT:gz P T) {M:Nat->Prop} (hM:∀b,base<=b->b<w.heap.size->¬M b):∀(n t fuel:Nat) (cs:List Value) (x:DataW H×List MemPlace),VT T n t=true->DataW.trod enc P w base spare held fuel t cs=some x->Reach P t x.1->∃xs,Fc T n t xs∧lp w M xs cs:=by
 intro n
 induction n with
 | zero=>intro t fuel cs x h;cases h
 | succ n ih =>
  intro t fuel cs x hok h hw
  unfold VT at hok
  unfold Fc
  cases hτ:T t with
  | none=>rw[hτ]at hok;cases hok
  | some τ =>
   rw[hτ]at hok
   simp only at hok ⊢
   obtain⟨d,hd,hc⟩:=under hT hτ
   cases hds:τ.ds with
   | int k =>
    rw[hds]at hok hc
    simp only[beq_iff_eq]at hok
    have hd':=xi hc
    subst hd'
    obtain⟨i,rfl,_,hw⟩:=DataW.trod_int hd h
    exact⟨[.int k i],⟨by rw[hok];rfl,i,rfl,hw⟩,.one rfl (.int k i)⟩
   | bool =>
    rw[hds]at hok hc
    simp only[beq_iff_eq]at hok
    have hd':=uw hc
    subst hd'
    obtain⟨b,rfl,_⟩:=DataW.trod_bool hd h
    exact⟨[.bool b],⟨by rw[hok];rfl,b,rfl⟩,.one rfl (.bool b)⟩
   | str =>
    rw[hds]at hok hc
    simp only[beq_iff_eq]at hok
    have hd':=pS hc
    subst hd'
    obtain⟨s,rfl,rfl,hs⟩:=DataW.trod_string hd h
    have hs':s.size<=140737488351232:=by
     have:=hw s.data.toList.length (by simp[DataW.weights])
     simpa using this
    exact⟨[.str s],⟨by rw[hok];rfl,s,rfl,hs'⟩,.one rfl (.str s)⟩
   | map _ _=>rw[hds]at hok;cases hok
   | other=>rw[hds]at hok;cases hok
   | struct fs =>
    rw[hds]at hok hc
    simp only[agt,af2]at hok
    obtain⟨F,rfl,hF⟩:=fY hc
    obtain⟨ys,m,_,rfl,hlen,hyl,hf⟩:=DataW.trod_struct hd h
    have hwy:∀(i:Nat) (f:Field) y,F[i]? = some f->ys[i]? = some y->Reach P f.type y.1:=by
     intro i f y hfi hyi k hk
     apply hw k
     simp only[DataW.weights,hd]
     exact DataW.weights_mem_each (j:=i) (t:=f.type) (d:=y.1) (by rw[afO,agI,hfi];rfl) (by simp[hyi]) k hk
    rw[(hT t τ hτ).cells]at hlen
    have hone:∀p:Nat×Nat,∃zs,p∈fs->∃φ,T p.1=some φ∧Fc T n p.1 zs∧lp w M zs ((cs.drop p.2).take φ.size):=by
     intro p
     by_cases hp:p∈fs
     ·have hokp:=hok.2 p hp
      rw[<- hF]at hp
      obtain⟨f,hfm,rfl⟩:=afQ.1 hp
      obtain⟨i,hi⟩:=List.mem_iff_getElem?.1 hfm
      have h1:=hf i f (by simpa using hi)
      simp only at hokp ⊢
      cases hφ:T f.type with
      | none=>cases n with
       | zero=>cases hokp
       | succ n=>simp only[VT,hφ]at hokp;cases hokp
      | some φ =>
       rw[(hT _ φ hφ).cells]at h1
       have hi':i<ys.length:=by
        have:=(agl.1 hi).1
        simp only[Array.length_toList]at this
        omega
       rw[af4 hi']at h1
       obtain⟨zs,hz1,hz2⟩:=ih _ _ _ _ hokp h1 (hwy i f _ (by simpa using hi) (af4 hi'))
       exact⟨zs,fun _=>⟨φ,rfl,hz1,hz2⟩⟩
     ·exact⟨[],fun h=>(hp h).elim⟩
    obtain⟨f,hf2⟩:=Classical.axiomOfChoice hone
    obtain⟨xs,hx,hparts⟩:=Tl fs 0 τ.size f hok.1 hlen (fun p hp=>by obtain⟨φ,a,_,b⟩:=hf2 p hp;exact⟨φ,a,b⟩) (afS _)
    rw[ahj]at hx
    refine⟨xs,⟨by rw[hx.1,hlen],fun p hp =>?_⟩,hx⟩
    obtain⟨φ,h1,_,h3⟩:=hparts p hp
    obtain⟨ψ,g1,g2,_⟩:=hf2 p hp
    rw[h1]at g1
    cases g1
    rw[Nat.sub_zero]at h3
    exact⟨φ,h1,by rw[h3];exact g2⟩
   | arr m e =>
    rw[hds]at hok hc
    simp only[agt]at hok
    have hd':=xh hc
    subst hd'
    obtain⟨ys,k,_,rfl,hlen,hyl,hf⟩:=DataW.trod_array hd h
    have hwy:∀(i:Nat) y,ys[i]? = some y->Reach P e y.1:=by
     intro i y hyi k hk
     apply hw k
     simp only[DataW.weights,hd]
     exact zo _ i y.1 (by simp[hyi]) k hk
    rw[(hT t τ hτ).cells]at hlen
    obtain⟨hok1,hok2⟩:=hok
    split at hok2
    ·rename_i φ hφ
     simp only[beq_iff_eq]at hok2
     have hone:∀i:Nat,∃zs,i<m->Fc T n e zs∧lp w M zs ((cs.drop (i*φ.size)).take φ.size):=by
      intro i
      by_cases hi:i<m
      ·have h1:=hf i hi
       rw[(hT _ φ hφ).cells,af4 (by omega)]at h1
       obtain⟨zs,hz1,hz2⟩:=ih _ _ _ _ hok1 h1 (hwy i _ (af4 (by omega)))
       exact⟨zs,fun _=>⟨hz1,hz2⟩⟩
      ·exact⟨[],fun h=>(hi h).elim⟩
     obtain⟨f,hf2⟩:=Classical.axiomOfChoice hone
     have hls:∀l∈(List.range m).map f,l.length=φ.size:=by
      intro l hl
      obtain⟨i,hi,rfl⟩:=afQ.1 hl
      have hi:=ahx.1 hi
      rw[(hf2 i hi).2.1,aga,agb,hlen,hok2]
      have:(i+1)*φ.size<=m*φ.size:=agE _ hi
      rw[agO]at this
      omega
     have hget:∀(i:Nat) l,((List.range m).map f)[i]? = some l->i<m∧l=f i:=by
      intro i l hl
      rw[afO,afP]at hl
      obtain⟨j,hj,rfl⟩:=hl
      obtain⟨hj1,hj2⟩:=agl.1 hj
      simp only[agn]at hj1
      simp only[ago]at hj2
      exact⟨hj1,by rw[hj2]⟩
     have hall:lp w M ((List.range m).map f).flatten ((cs.drop 0).take (((List.range m).map f).length*φ.size)):=by
      refine lp.flat _ 0 (fun i l hl =>?_) hls
      obtain⟨hi,rfl⟩:=hget i l hl
      rw[agF]
      exact (hf2 i hi).2
     rw[agm,agn,ahj,ahi (by omega)]at hall
     refine⟨_,⟨by rw[hall.1,hlen],φ,hφ,fun i hi =>?_⟩,hall⟩
     have hi':((List.range m).map f)[i]? = some (f i):=by simp[hi]
     rw[C6 φ.size _ hls i _ hi']
     exact (hf2 i hi).1
    ·cases hok2
   | slice e =>
    rw[hds]at hok hc
    simp only[agt,beq_iff_eq]at hok
    have hd':=e9 hc
    subst hd'
    obtain⟨⟨hone,hoke⟩,hpos⟩:=hok
    split at hpos
    ·rename_i φ hφ
     simp only[decide_eq_true_eq]at hpos
     rcases open_slice hd h with⟨rfl,_⟩|⟨a,len,cap,m,k,D',Pl,rfl,hb,hl,hm,hmm,rfl,hi⟩
     ·refine⟨[.sl false false 0 []],⟨by rw[hone];rfl,0,[],φ,rfl,by omega,hφ,by simp,fun i hi=>by omega⟩,.one rfl ?_⟩
      exact .sl none 0 false false 0 [] (fun _=>undef) (afR _) (afS _) (fun h=>by cases h) (fun _=>⟨rfl,rfl⟩) (fun h=>by cases h) (fun h=>(h rfl).elim) (fun j x hj=>by simp at hj) (fun x hx=>by simp at hx)
     ·have hlm:len<=m:=by rw[hmm];split<;>omega
      have hwl:len*φ.bytes<=140737488351232:=by
       have h1:=hw ((((List.range len).map D').length+((List.range (m-len)).map fun j=>D' (len+j)).length)*P.bytesOf e) (by simp[DataW.weights,hd])
       rw[(hT _ φ hφ).bytesOf]at h1
       simp only[agm,agn]at h1
       exact afT (agE _ (by omega)) h1
      have hwy:∀i,i<len->Reach P e (D' i):=by
       intro i hi' k hk
       apply hw k
       simp only[DataW.weights,hd,afY,ag7]
       exact .inr (.inl (zo _ i (D' i) (by simp[hi']) k hk))
      have hone':∀i:Nat,∃zs,i<len->Fc T n e zs∧zs.length=φ.size∧∀(j:Nat) z,zs[j]? = some z->aS z=true∧∃v,w.cell? (a.add (i*φ.size+j))=some v∧RP w M z v:=by
       intro i
       by_cases hil:i<len
       ·obtain⟨cs',hc1,hc2⟩:=hi i (by omega)
        rw[(hT _ φ hφ).cells]at hc1
        obtain⟨_,g1,g2⟩:=World.cells?_some hc1
        obtain⟨zs,hz1,hz2⟩:=ih _ _ _ _ hoke hc2 (hwy i hil)
        refine⟨zs,fun _=>⟨hz1,by rw[hz2.1,g1],fun j z hj =>?_⟩⟩
        obtain⟨p1,v,p2,p3⟩:=hz2.2 j z hj
        refine⟨p1,v,?_,p3⟩
        have hj':j<φ.size:=by rw[<- g1];exact (agl.1 p2).1
        rw[<- Go.Deep.add_add,g2 j hj',p2]
       ·exact⟨[],fun h=>(hil h).elim⟩
      obtain⟨f,hf2⟩:=Classical.axiomOfChoice hone'
      have hls:∀l∈(List.range len).map f,l.length=φ.size:=by
       intro l hl
       obtain⟨i,hi,rfl⟩:=afQ.1 hl
       exact (hf2 i (ahx.1 hi)).2.1
      have hfl:((List.range len).map f).flatten.length=len*φ.size:=by rw[Mu φ.size _ hls];simp
      have hseg:∀i,i<len->(((List.range len).map f).flatten.drop (i*φ.size)).take φ.size=f i:=fun i hi=>C6 φ.size _ hls i (f i) (by simp[hi])
      have hat:∀(p:Nat) z,((List.range len).map f).flatten[p]? = some z->aS z=true∧∃v,w.cell? (a.add p)=some v∧RP w M z v:=by
       intro p z hp
       have hpl:=(agl.1 hp).1
       rw[hfl]at hpl
       have hq:p / φ.size<len:=Nat.div_lt_of_lt_mul (by rwa [agP])
       have hr:p % φ.size<φ.size:=Nat.mod_lt _ hpos
       have he:p / φ.size*φ.size+p % φ.size=p:=Nat.div_add_mod' p φ.size
       have hz:(f (p / φ.size))[p % φ.size]? = some z:=by
        rw[<- hseg _ hq,af7,if_pos hr,af8,he]
        exact hp
       have:=(hf2 _ hq).2.2 _ z hz
       rw[he]at this
       exact this
      refine⟨[.sl false false len ((List.range len).map f).flatten],⟨by rw[hone];rfl,len,_,φ,rfl,hwl,hφ,hfl,fun i hi=>by rw[hseg i hi];exact (hf2 i hi).1⟩,.one rfl ?_⟩
      refine .sl (some a) cap false false len _ (fun j=>(w.cell? (a.add j)).getD undef) hl hm (fun h=>by cases h) (fun h=>by cases h) (fun h=>by cases h) (fun hne =>?_) (fun j z hj =>?_) (fun z hz =>?_)
      ·have h0:0<((List.range len).map f).flatten.length:=ahH.2 hne
       obtain⟨_,v,hv,_⟩:=hat 0 _ (af4 h0)
       obtain⟨b,o,sp⟩:=a
       have hsp:sp=none:=by
        unfold World.cell? at hv
        split at hv
        ·split at hv
         ·cases hv
         ·rename_i h;simpa [Addr.add] using h
        ·cases hv
       subst hsp
       have hbs:b<w.heap.size:=by
        unfold World.cell? at hv
        split at hv
        ·rename_i hh;exact (afV.1 hh).1
        ·cases hv
       refine⟨b,o,rfl,hbs,hM b hb hbs,fun j hj =>?_⟩
       obtain⟨_,v,hv,_⟩:=hat j _ (af4 hj)
       have ha:Addr.add ⟨b,o,none⟩ j=⟨b,o+j,none⟩:=by
        unfold Addr.add
        split
        ·rename_i h0;rw[h0];rfl
        ·rfl
       have hv':w.cell? ⟨b,o+j,none⟩=some v:=by rw[<- ha];exact hv
       rw[hv']
       simp only[hv,Option.getD_some]
      ·obtain⟨_,v,hv,hr⟩:=hat j z hj
       rw[hv]
       exact hr
      ·obtain⟨j,hj⟩:=List.mem_iff_getElem?.1 hz
       exact (hat j z hj).1
    ·cases hpos
def sD (T:Nat->Option Ty) (n t:Nat) (d:D):Prop :=
 match T t with
 | some τ=>if τ.ds.nn then ∃xs,d=.agg xs∧Fc T n t xs else Fc T n t [d]
 | none=>False
theorem lp.agg {w:World} {M:Nat->Prop} {xs:List D} {cs:Array Value} (h:lp w M xs cs.toList):RP w M (.agg xs) (.agg cs):=by
 have:=RP.agg (w:=w) (M:=M) xs cs.toList h.1.symm (fun j x hj=>by
  obtain⟨_,v,h1,h2⟩:=h.2 j x hj
  simp only[List.getD,h1,Option.getD_some]
  exact h2) (fun x hx=>by
  obtain⟨j,hj⟩:=List.mem_iff_getElem?.1 hx
  exact (h.2 j x hj).1)
 simpa using this
theorem lp.single {w:World} {M:Nat->Prop} {xs:List D} {v:Value} (h:lp w M xs [v]):∃x,xs=[x]∧RP w M x v:=by
 match xs,h with
 | [],h=>have:=h.1;simp at this
 | [x],h=>obtain⟨_,u,h1,h2⟩:=h.2 0 x rfl;simp only[List.getElem?_cons_zero,af0]at h1;subst h1;exact⟨x,rfl,h2⟩
 | x::y::xs,h=>have:=h.1;simp at this
theorem aaq (hT:gz P T) {M:Nat->Prop} (hM:∀b,base<=b->b<w.heap.size->¬M b) {n t b0:Nat} {v:Value} {d:DataW H} {ps:List MemPlace} (hok:VT T n t=true) (hv:Value.okWide P w .any b0 t v) (h:DataW.Trod enc P w base spare held t v d ps) (hw:Reach P t d) :
  ∃x,sD T n t x∧RP w M x v:=by
 obtain⟨fuel,h⟩:=h
 obtain⟨xs,h1,h2⟩:=aca hT hM n t fuel _ _ hok h hw
 unfold sD
 cases n with
 | zero=>cases hok
 | succ n =>
 cases hτ:T t with
 | none=>simp only[VT,hτ]at hok;cases hok
 | some τ =>
  simp only
  obtain⟨d',hd,hc⟩:=under hT hτ
  cases hds:τ.ds with
  | int k =>
   rw[hds]at hc
   have hd':=xi hc
   subst hd'
   obtain⟨i,rfl⟩:=okWide_int hd hv
   obtain⟨x,rfl,hx⟩:=lp.single (v := .int k i) h2
   exact⟨x,by simpa [Ds.nn] using h1,hx⟩
  | bool =>
   rw[hds]at hc
   have hd':=uw hc
   subst hd'
   obtain⟨i,rfl⟩:=okWide_bool hd hv
   obtain⟨x,rfl,hx⟩:=lp.single (v := .bool i) h2
   exact⟨x,by simpa [Ds.nn] using h1,hx⟩
  | str =>
   rw[hds]at hc
   have hd':=pS hc
   subst hd'
   obtain⟨i,rfl⟩:=okWide_string hd hv
   obtain⟨x,rfl,hx⟩:=lp.single (v := .string i) h2
   exact⟨x,by simpa [Ds.nn] using h1,hx⟩
  | slice e =>
   rw[hds]at hc
   have hd':=e9 hc
   subst hd'
   obtain⟨a,len,cap,rfl⟩:=okWide_slice hd hv
   obtain⟨x,rfl,hx⟩:=lp.single (v := .slice a len cap) h2
   exact⟨x,by simpa [Ds.nn] using h1,hx⟩
  | struct fs =>
   rw[hds]at hc
   obtain⟨F,rfl,_⟩:=fY hc
   obtain⟨cs,rfl,_⟩:=okWide_struct hd hv
   exact⟨.agg xs,by simpa [Ds.nn] using h1,lp.agg h2⟩
  | arr m e =>
   rw[hds]at hc
   have hd':=xh hc
   subst hd'
   have:∃cs,v=.agg cs:=by
    unfold Value.okWide at hv
    rw[hd]at hv
    obtain⟨cs,h,_⟩:=hv
    exact⟨cs,h⟩
   obtain⟨cs,rfl⟩:=this
   exact⟨.agg xs,by simpa [Ds.nn] using h1,lp.agg h2⟩
  | map _ _=>simp only[VT,hτ,hds]at hok;cases hok
  | other=>simp only[VT,hτ,hds]at hok;cases hok
theorem Gj (hT:gz P T) {M:Nat->Prop} (hM:∀b,base<=b->b<w.heap.size->¬M b) {n b0:Nat} : ∀(ts:List TypeId) (vs:List Value) (ds:List (DataW H)) (ps:List MemPlace),DataW.TrodAll enc P w base spare held ts vs ds ps ->
  (∀(j:Nat) t v,ts[j]? = some t->vs[j]? = some v->Value.okWide P w .any b0 t v)->(∀t∈ts,VT T n t=true)->(∀k∈DataW.weightsEach P ts ds,k<=140737488351232) ->
  ∃ar:List D,ar.length=vs.length∧(∀(j:Nat) x,ar[j]? = some x->∃v,vs[j]? = some v∧RP w M x v)∧ar.length=ts.length∧∀(j:Nat) t,ts[j]? = some t->∃x,ar[j]? = some x∧sD T n t x
 | [],[],[],ps,_,_,_,_=>⟨[],rfl,fun j x hj=>by simp at hj,rfl,fun j t hj=>by simp at hj⟩
 | t::ts,v::vs,d::ds,ps,h,hv,hok,hw=>by
  obtain⟨p,q,h1,h2,_⟩:=h
  obtain⟨x,hx1,hx2⟩:=aaq hT hM (hok t (by simp)) (hv 0 t v rfl rfl) h1 (fun k hk=>hw k (by simp only[DataW.weightsEach,ag7];exact .inl hk))
  obtain⟨ar,g1,g2,g3,g4⟩:=Gj hT hM ts vs ds q h2 (fun j t' v' a b=>hv (j+1) t' v' (by simpa using a) (by simpa using b)) (fun t' ht=>hok t' (ahp _ ht)) (fun k hk=>hw k (by simp only[DataW.weightsEach,ag7];exact .inr hk))
  refine⟨x::ar,by simp[g1],fun j y hj =>?_,by simp[g3],fun j t' hj =>?_⟩
  ·cases j with
   | zero=>simp only[List.getElem?_cons_zero,af0]at hj;subst hj;exact⟨v,rfl,hx2⟩
   | succ j=>simpa using g2 j y (by simpa using hj)
  ·cases j with
   | zero=>simp only[List.getElem?_cons_zero,af0]at hj;subst hj;exact⟨x,rfl,hx1⟩
   | succ j=>simpa using g4 j t' (by simpa using hj)
 | [],[],_::_,_,h,_,_,_=>h.elim
 | [],_::_,_,_,h,_,_,_=>h.elim
 | _::_,[],_,_,h,_,_,_=>h.elim
 | _::_,_::_,[],_,h,_,_,_=>h.elim
end
end Go.Proofs.YtmcncjgbkobjnaaGreat.Am
namespace Go.Proofs.YtmcncjgbkobjnaaGreat.Am
open Go.RowKit Go.Deep Go.ChangeShapes Go.WideShapes Go.ChangeAt
section
variable {H:Type} {enc:TypeId×Value->H} {P:Program}
theorem FP {f:Func} {s:ChangeSpec} {apart fresh handsOn again:Bool} {W W':World} {args:Array Value} {v:Value} {ds gs:List (DataW H)} {before pa pv:List MemPlace}
  (hW:DataW.Whole enc P f.params.toList s.vars apart W args.toList ds gs before)
  (hres:∀(b:Nat) (sp:Nat->Bool) (hd:Bool),DataW.TrodAll enc P W' b sp hd f.resultTypes.toList (v.resultList f.resultTypes.size) (s.fn H (ds++gs)).results [])
  (hargs:∀sp:Nat->Bool,(∀p∈before,sp p.block=true)->DataW.TrodAll enc P W' 0 sp true f.params.toList args.toList (s.fn H (ds++gs)).args pa)
  (hvars:∀sp:Nat->Bool,(∀p∈before,sp p.block=true)->DataW.TrodVars enc P W' sp s.vars (s.fn H (ds++gs)).vars pv)
  (hps:before=pa++pv) (hb:Below W.heap.size W W')
  (hok:∀(j:Nat) (t:TypeId) (r:Value),f.resultTypes[j]? = some t->(v.resultList f.resultTypes.size)[j]? = some r->Value.okWide P W' .any 0 t r) :
  s.post enc P f apart fresh handsOn again W args v W':=by
 have hlt:∀p∈before,p.block<W.heap.size:=fun p hp=>hW.lt p hp
 have hold:∀p∈before,(fun b=>decide (b<W.heap.size)) p.block=true:=fun p hp=>by simpa using hlt p hp
 refine⟨ds,gs,before,[],pa,pv,hW,hres _ _ _,hargs _ hold,hvars _ hold,World.keptBut_mono (fun p hp=>⟨hp,?_⟩) (hb.frame (·∈before)),fun _ =>?_⟩
 ·rw[hps,ag7]at hp
  exact Or.inr hp
 ·obtain⟨_,_,_,_,_,hz,hn⟩:=hW
  refine⟨hok,_,_,([]++pa)++pv,⟨[]++pa,pv,trodAll_append (hargs _ (fun _ _=>rfl)) (hres _ _ _),hvars _ (fun _ _=>rfl),rfl,?_,?_⟩,?_⟩
  ·intro b off hp
   have hin:MemPlace.cell b off∈before:=by rw[hps];simpa using hp
   rw[hb.frozen (hlt _ hin)]
   exact hz b off hin
  ·intro ha
   have:=hn ha
   rw[hps]at this
   simpa using this
  ·intro p hp _
   rw[hps]
   simpa using hp
theorem wk (hl:laidOutB P=true) {W W':World} {sp':Nat->Bool} : ∀ {ts:List TypeId} {vs:List Value} {ds:List (DataW H)} {ps:List MemPlace},(∀t∈ts,P.readableRec t=true∧t<P.types.size)->DataW.TrodAll enc P W 0 (fun _=>true) true ts vs ds ps ->
  (∀p∈ps,W.sameAt W' p)->(∀p∈ps,sp' p.block=true)->DataW.TrodAll enc P W' 0 sp' true ts vs ds ps
 | [],[],[],_,_,h,_,_=>h
 | t::ts,v::vs,d::ds,_,hr,⟨p,q,h1,h2,e⟩,hs,hp=>by
  subst e
  have ht:=hr t (by simp)
  exact⟨p,q,WideElems.Trod_stays hl ht.1 ht.2 h1 (fun x hx=>hs x (af5 _ hx)) (fun x hx=>hp x (af5 _ hx)),
   wk hl (fun t ht=>hr t (ahp _ ht)) h2 (fun x hx=>hs x (af6 _ hx)) (fun x hx=>hp x (af6 _ hx)),rfl⟩
end
theorem YR {H:Type} {enc:TypeId×Value->H} {C:Checked} {T:Nat->Option Ty} {f:FuncId} {fn:Func} {s:ChangeSpec} {apart fresh handsOn again:Bool} {tb n:Nat} (hT:gz C.prog T)
  (hl:laidOutB C.prog=true) (hr:(fn.params.toList.all fun t=>C.prog.readableRec t&&decide (t<C.prog.types.size)&&VT T n t)=true)
  (hres:fn.resultTypes = #[tb]) (htb:C.prog.underlying tb=some .bool) (hv:s.vars=[])
  (hs:∀ds:List (DataW H),ds.length=fn.params.toList.length->(s.fn H ds).results=[.lit (.bool true)]∧(s.fn H ds).args=ds∧(s.fn H ds).vars=[])
  (law:∀ar:List D,ar.length=fn.params.toList.length->(∀(j:Nat) t,fn.params.toList[j]? = some t->∃x,ar[j]? = some x∧sD T n t x)->PI C.prog f ar (.bool true))
  {W:World} {base:Nat} {args:Array Value} {ds gs:List (DataW H)} {before:List MemPlace}
  (hval:∀(j:Nat) t v,fn.params[j]? = some t->args[j]? = some v->Value.okWide C.prog W .any base t v) (hW:DataW.Whole enc C.prog fn.params.toList s.vars apart W args.toList ds gs before)
  (hsz:(DataW.weightsEach C.prog (fn.params.toList++s.plain.varTypes C.prog) (ds++gs)).all (·<=reachBytes)=true) (hTab:UM W (fun _=>False)) :
  Calls C.prog f args W fun e W'=>∃v,e=.returned v∧s.post enc C.prog fn apart fresh handsOn again W args v W':=by
 have hW':=hW
 obtain⟨p,q,hA,hV,rfl,hfz,hnd⟩:=hW
 rw[hv]at hV
 obtain⟨rfl,rfl⟩:=trodVars_none hV
 simp only[af2,agt,decide_eq_true_eq]at hr
 obtain⟨ar,h1,h2,h3,h4⟩:=Gj (P:=C.prog) hT (M:=fun _=>False) (fun b _ _ h=>h) (n:=n) (b0:=base) fn.params.toList args.toList ds p hA
  (fun j t v a b=>hval j t v (by simpa using a) (by simpa using b)) (fun t ht=>(hr t ht).2) (fun k hk=>by
   rw[af2]at hsz
   have hv0:s.plain.varTypes C.prog=[]:=by unfold ChangeSpec.plain;simp only[hv];rfl
   rw[hv0,ahI,ahI]at hsz
   have h:=hsz k hk
   rw[decide_eq_true_eq]at h
   exact h)
 refine (law ar h3 h4 W (fun _=>False) args (fun b h=>h.elim) ⟨by simpa using h1.symm,fun j x hj =>?_,hTab⟩).mono fun e W' hG =>?_
 ·obtain⟨v,g1,g2⟩:=h2 j x hj
  have g1':args[j]? = some v:=by simpa using g1
  rw[afW,g1']
  exact g2
 ·obtain⟨v,rfl,hb,hv1⟩:=hG
  have hv2:RP W' (fun _=>False) (.bool true) v:=hv1
  cases hv2
  have hlen:ds.length=fn.params.toList.length:=by
   have:∀ {ts:List TypeId} {vs:List Value} {ds:List (DataW H)} {ps:List MemPlace},DataW.TrodAll enc C.prog W 0 (fun _=>true) true ts vs ds ps->ds.length=ts.length:=by
    intro ts
    induction ts with
    | nil=>intro vs ds ps h;cases vs<;>cases ds<;>first|rfl|exact h.elim
    | cons t ts ih =>
     intro vs ds ps h
     cases vs with
     | nil=>exact h.elim
     | cons v vs=>cases ds with
      | nil=>exact h.elim
      | cons d ds=>obtain⟨_,_,_,h2,_⟩:=h;simp[ih h2]
   exact this hA
  obtain⟨e1,e2,e3⟩:=hs ds hlen
  refine⟨_,rfl,FP (pa:=p) (pv:=[]) hW' ?_ ?_ ?_ (by simp) hb ?_⟩
  ·intro b sp hd
   rw[ahI,e1,hres]
   exact trodAll_mk1 ⟨1,by simp[DataW.trod,htb,Value.cells]⟩
  ·intro sp hsp
   rw[ahI,e2]
   refine wk hl (fun t ht=>(hr t ht).1) hA (fun x hx=>hb.same (hW'.lt x (by simpa using hx))) (fun x hx=>hsp x (by simpa using hx))
  ·intro sp _
   rw[ahI,e3,hv]
   rfl
  ·exact ok_one hres rfl (by simp[Value.okWide,htb,Cell.okWide,Cell.ok])
theorem Rl {H:Type} {enc:TypeId×Value->H} {C:Checked} {os:Os} {T:Nat->Option Ty} {f:FuncId} {fn:Func} {s:ChangeSpec} {conds:List PathCond} {apart fresh handsOn again:Bool} {tb n:Nat}
  (hT:gz C.prog T) (own:ownKnob C.prog.godebug=none) (started:os.Started) (noInit:C.prog.inits.idxOf? f=none) (hfn:C.prog.funcs[f]? = some fn)
  (witness:∃(w:World) (tape:Tape) (i:Input),w.os=os∧(w.forCall tape i).Shaped C.prog∧i.vars=[]∧Input.okWide C.prog (w.forCall tape i) .any w.heap.size f i ∧
   s.pre6 enc C.prog fn conds apart (w.forCall tape i).memory i.args∧({} : Assume).holds C.prog (lone (Frame.enter C.prog f i.args .normal) [] (w.forCall tape i)))
  (hl:laidOutB C.prog=true) (hr:(fn.params.toList.all fun t=>C.prog.readableRec t&&decide (t<C.prog.types.size)&&VT T n t)=true)
  (hres:fn.resultTypes = #[tb]) (htb:C.prog.underlying tb=some .bool) (hv:s.vars=[])
  (hs:∀ds:List (DataW H),ds.length=fn.params.toList.length->(s.fn H ds).results=[.lit (.bool true)]∧(s.fn H ds).args=ds∧(s.fn H ds).vars=[])
  (law:∀ar:List D,ar.length=fn.params.toList.length->(∀(j:Nat) t,fn.params.toList[j]? = some t->∃x,ar[j]? = some x∧sD T n t x)->PI C.prog f ar (.bool true)) (hno:Zo=none:=by rfl) :
  ReturnsInHanded {} C os f .any (s.pre6 enc C.prog fn conds apart) (s.post enc C.prog fn apart fresh handsOn again):=by
 apply returnsInHanded_of_change_sized own started noInit hfn witness
 intro W base args ds gs before hval hW _ hsz _
 exact YR hT hl hr hres htb hv hs law hval hW hsz (fun b hb=>by rw[hno]at hb;cases hb)
end Go.Proofs.YtmcncjgbkobjnaaGreat.Am
namespace Go.Proofs.YtmcncjgbkobjnaaGreat.Am
open Go.RowKit
theorem adq {T:Nat->Option Ty} {n t:Nat} {ar:List D} (h:ar.length=[t].length) (hs:∀(j:Nat) u,[t][j]? = some u->∃x,ar[j]? = some x∧sD T n u x):∃a,ar=[a]∧sD T n t a:=by
 match ar,h with
 | [a],_=>obtain⟨x,h1,h2⟩:=hs 0 t rfl;cases h1;exact⟨a,rfl,h2⟩
theorem adr {T:Nat->Option Ty} {n t:Nat} {ts:List Nat} {ar:List D} (h:ar.length=(t::ts).length) (hs:∀(j:Nat) u,(t::ts)[j]? = some u->∃x,ar[j]? = some x∧sD T n u x) :
  ∃a afM,ar=a::afM∧sD T n t a∧afM.length=ts.length∧∀(j:Nat) u,ts[j]? = some u->∃x,afM[j]? = some x∧sD T n u x:=by
 match ar,h with
 | a::afM,h =>
  obtain⟨x,h1,h2⟩:=hs 0 t rfl
  cases h1
  exact⟨a,afM,rfl,h2,by simpa using h,fun j u hu=>by simpa using hs (j+1) u (by simpa using hu)⟩
section
variable {T:Nat->Option Ty} {n t:Nat} {τ:Ty} {d:D}
theorem aam {k:IntKind} (h:sD T (n+1) t d) (hτ:T t=some τ) (hd:τ.ds=.int k):∃i,d=.int k i∧(Lit.int k i).wf=true:=by
 simp only[sD,hτ,hd,Ds.nn,ags,if_false,Fc]at h
 obtain⟨_,i,hi,hw⟩:=h
 cases hi
 exact⟨i,rfl,hw⟩
theorem PT {fs:List (Nat×Nat)} (h:sD T n t d) (hτ:T t=some τ) (hd:τ.ds=.struct fs):∃xs,d=.agg xs∧Fc T n t xs:=by
 simp only[sD,hτ,hd,Ds.nn,if_true]at h
 exact h
theorem aa3 {k:IntKind} {xs:List D} (h:Fc T (n+1) t xs) (hτ:T t=some τ) (hd:τ.ds=.int k):∃i,xs=[.int k i]∧(Lit.int k i).wf=true:=by
 simp only[Fc,hτ,hd]at h
 exact h.2
theorem Wc {e:Nat} {φ:Ty} {xs:List D} (h:Fc T (n+1) t xs) (hτ:T t=some τ) (hd:τ.ds=.slice e) (hφ:T e=some φ) :
  ∃len ys,xs=[.sl false false len ys]∧len*φ.bytes<=140737488351232∧ys.length=len*φ.size∧∀i,i<len->Fc T n e ((ys.drop (i*φ.size)).take φ.size):=by
 simp only[Fc,hτ,hd]at h
 obtain⟨_,len,ys,ψ,h1,h3,h4,h5,h6⟩:=h
 rw[hφ]at h4
 cases h4
 exact⟨len,ys,h1,h3,h5,h6⟩
theorem RN {fs:List (Nat×Nat)} {xs:List D} (h:Fc T (n+1) t xs) (hτ:T t=some τ) (hd:τ.ds=.struct fs):xs.length=τ.size∧∀f∈fs,∃φ,T f.1=some φ∧Fc T n f.1 ((xs.drop f.2).take φ.size):=by
 simp only[Fc,hτ,hd]at h
 exact h
end
end Go.Proofs.YtmcncjgbkobjnaaGreat.Am
namespace Go.Proofs.YtmcncjgbkobjnaaGreat.Am
open Go.RowKit Go.Proofs.YtmcncjgbkobjnaaGreat.P
def R8 {α:Type} (T:Nat->Option Ty) (n t:Nat) (E:ij α) (ok:α->Prop):Prop:=(∃φ,T t=some φ∧φ.size=E.size)∧∀xs,Fc T n t xs->∃x,xs=E.cells x∧ok x
section
variable {T:Nat->Option Ty} {n t:Nat} {τ:Ty}
theorem opI {k:IntKind} (hτ:T t=some τ) (hd:τ.ds=.int k) (hs:τ.size=1):R8 T (n+1) t (eI k) (fun i=>(Lit.int k i).wf=true):=⟨⟨τ,hτ,hs⟩,fun _ h=>aa3 h hτ hd⟩
theorem abR {α:Type} (E:ij α) (ok:α->Prop):∀(len:Nat) (ys:List D),ys.length=len*E.size->(∀i,i<len->∃x,(ys.drop (i*E.size)).take E.size=E.cells x∧ok x)->∃l:List α,l.length=len∧ys=ab E l∧∀x∈l,ok x
 | 0,ys,hl,_=>⟨[],rfl,by simpa [ab] using hl,fun x hx=>by simp at hx⟩
 | len+1,ys,hl,h=>by
  obtain⟨x,hx,hok⟩:=h 0 (by omega)
  obtain⟨l,h1,h2,h3⟩:=abR E ok len (ys.drop E.size) (by rw[agb,hl,agO];omega) (fun i hi=>by
   obtain⟨y,hy,hy2⟩:=h (i+1) (by omega)
   refine⟨y,?_,hy2⟩
   rw[ahF]
   rw[agO,Nat.add_comm]at hy
   exact hy)
  rw[Nat.zero_mul,ahj]at hx
  refine⟨x::l,by simp[h1],?_,fun y hy =>?_⟩
  ·rw[bo,<- h2,<- hx,ahG]
  ·rcases afY.1 hy with rfl|hy
   ·exact hok
   ·exact h3 y hy
theorem adM {α:Type} {E:ij α} {ok:α->Prop} {e:Nat} (hτ:T t=some τ) (hd:τ.ds=.slice e) (hs:τ.size=1) {B:Nat} (hB:(T e).map (·.bytes)=some B) (he:R8 T n e E ok):R8 T (n+1) t (lf E) (fun l=>l.length*B<=140737488351232∧∀x∈l,ok x):=by
 obtain⟨⟨φ,hφ,hz⟩,hx⟩:=he
 have hb:φ.bytes=B:=by rw[hφ]at hB;simpa using hB
 refine⟨⟨τ,hτ,hs⟩,fun xs h =>?_⟩
 obtain⟨len,ys,h1,h2,h3,h4⟩:=Wc h hτ hd hφ
 rw[hz]at h3 h4
 rw[hb]at h2
 obtain⟨l,k1,k2,k3⟩:=abR E ok len ys h3 fun i hi=>hx _ (h4 i hi)
 subst k1 k2
 exact⟨l,h1,h2,k3⟩
def OpF {α:Type} (T:Nat->Option Ty) (n:Nat) (fs:List (Nat×Nat)) (o:Nat) (E:ij α) (ok:α->Prop):Prop :=
 ∀xs:List D,xs.length=o+E.size->(∀f∈fs,∃φ,T f.1=some φ∧Fc T n f.1 ((xs.drop f.2).take φ.size))->∃x,xs.drop o=E.cells x∧ok x
theorem aaQ {α:Type} {E:ij α} {ok:α->Prop} {ft o:Nat} (h:R8 T n ft E ok):OpF T n [(ft,o)] o E ok:=by
 obtain⟨⟨φ,hφ,hz⟩,hx⟩:=h
 intro xs hl hf
 obtain⟨ψ,h1,h2⟩:=hf (ft,o) (by simp)
 cases hφ.symm.trans h1
 rw[ahi (by rw[agb];omega)]at h2
 exact hx _ h2
theorem YH {α β:Type} {E:ij α} {ok:α->Prop} {E':ij β} {ok':β->Prop} {ft o o':Nat} {fs:List (Nat×Nat)} (h:R8 T n ft E ok) (ho:o'=o+E.size) (h':OpF T n fs o' E' ok'):OpF T n ((ft,o)::fs) o (jG E E') (fun x=>ok x.1∧ok' x.2):=by
 subst ho
 obtain⟨⟨φ,hφ,hz⟩,hx⟩:=h
 intro xs hl hf
 obtain⟨ψ,h1,h2⟩:=hf (ft,o) (by simp)
 cases hφ.symm.trans h1
 obtain⟨x,hx1,hx2⟩:=hx _ h2
 obtain⟨y,hy1,hy2⟩:=h' xs (by rw[hl];show o+(E.size+E'.size)=_;omega) fun f hf'=>hf f (ahp _ hf')
 refine⟨(x,y),?_,hx2,hy2⟩
 show xs.drop o=E.cells x++E'.cells y
 rw[<- hx1,<- hy1,<- hz,<- ahF,ahG]
theorem opS {α β:Type} {E:ij β} {ok:β->Prop} {f:α->β} {hf:∀x y,f x=f y->x=y} {g:β->α} {fs:List (Nat×Nat)} (hτ:T t=some τ) (hd:τ.ds=.struct fs) (hs:τ.size=E.size) (hg:∀y,f (g y)=y) (h:OpF T n fs 0 E ok):R8 T (n+1) t (wE E f hf) (fun x=>ok (f x)):=by
 refine⟨⟨τ,hτ,hs⟩,fun xs hx =>?_⟩
 obtain⟨h1,h2⟩:=RN hx hτ hd
 obtain⟨y,h3,h4⟩:=h xs (by rw[h1,hs,agF]) h2
 refine⟨g y,?_,?_⟩
 ·show xs=E.cells (f (g y))
  rw[hg,<- h3,ahj]
 ·show ok (f (g y))
  rw[hg];exact h4
def OpA {α:Type} (T:Nat->Option Ty) (n t:Nat) (A:Arg α) (ok:α->Prop):Prop:=∀d,sD T n t d->∃x,d=A.d x∧ok x
theorem oaI {k:IntKind} (hτ:T t=some τ) (hd:τ.ds=.int k):OpA T (n+1) t (aI k) (fun i=>(Lit.int k i).wf=true):=fun _ h=>aam h hτ hd
theorem oaS {α:Type} {E:ij α} {ok:α->Prop} {fs:List (Nat×Nat)} (hτ:T t=some τ) (hd:τ.ds=.struct fs) (hE:R8 T n t E ok):OpA T n t (bM E) ok:=fun d h=>by
 obtain⟨xs,rfl,h1⟩:=PT h hτ hd
 obtain⟨x,h1,h2⟩:=hE.2 _ h1
 exact⟨x,by rw[h1];rfl,h2⟩
def Ww {α:Type} (T:Nat->Option Ty) (n:Nat) (ts:List Nat) (A:jt α) (ok:α->Prop):Prop:=∀ar:List D,ar.length=ts.length->(∀(j:Nat) u,ts[j]? = some u->∃x,ar[j]? = some x∧sD T n u x)->∃x,ar=A.ds x∧ok x
theorem afb {α:Type} {A:Arg α} {ok:α->Prop} (h:OpA T n t A ok):Ww T n [t] (eU A) ok:=fun ar hl hs=>by
 obtain⟨a,rfl,ha⟩:=adq hl hs
 obtain⟨x,rfl,hx⟩:=h a ha
 exact⟨x,rfl,hx⟩
theorem afc {α β:Type} {A:Arg α} {ok:α->Prop} {B:jt β} {ok':β->Prop} {ts:List Nat} (h:OpA T n t A ok) (h':Ww T n ts B ok'):Ww T n (t::ts) (jO A B) (fun x=>ok x.1∧ok' x.2):=fun ar hl hs=>by
 obtain⟨a,ar,rfl,ha,hl',hs'⟩:=adr hl hs
 obtain⟨x,rfl,hx⟩:=h a ha
 obtain⟨y,rfl,hy⟩:=h' ar hl' hs'
 exact⟨(x,y),rfl,hx,hy⟩
theorem acp {P:Program} {f:FuncId} {α:Type} {A:jt α} {F:α->Option Bool} {ok:α->Prop} {ts:List Nat} (ho:Ww T n ts A ok) (hG:bP P f (fb A F (fun r =>.clean (.bool r)))) (h:∀x,ok x->F x=some true) (ar:List D) (hl:ar.length=ts.length)
  (hs:∀(j:Nat) u,ts[j]? = some u->∃x,ar[j]? = some x∧sD T n u x):PI P f ar (.bool true):=by
 obtain⟨x,rfl,hx⟩:=ho ar hl hs
 refine hG.calls none _ _ none ?_
 rw[aJ,h x hx]
 rfl
end
end Go.Proofs.YtmcncjgbkobjnaaGreat.Am
namespace Go.Proofs.YtmcncjgbkobjnaaGreat.P
open Go.RowKit
def UC (l:List Int):Option (List Int):=some l
def Ky (l:List Int):Option (List Int):=if l.length*8<=140737488351232 then some (A0 l) else none
end Go.Proofs.YtmcncjgbkobjnaaGreat.P
namespace Go.Proofs
open Go.Shelf
def Tryz.Ni:Go.Shelf.Ren:=⟨fun|189=>207|125=>137|257=>222|128=>188|129=>189|294=>225|295=>226|296=>227|297=>228|298=>229|299=>230|216=>231|300=>232|301=>233|328=>235|329=>211|330=>212|331=>236|332=>237|215=>190|343=>238|n=>n,fun|28=>22|3=>3|46=>171|0=>0|51=>207|53=>185|4=>4|183=>201|182=>200|131=>188|5=>5|9=>9|218=>216|222=>220|228=>230|229=>231|n=>n,fun|n=>n⟩
theorem Tryz.Tj:Go.Proofs.Lays.n189 prog Tryz.Ni:={
 mixed:=by kernel_rfl
 f125:=Tryz.func137.trans (congrArg some (by kernel_rfl))
 f128:=Tryz.func188.trans (congrArg some (by kernel_rfl))
 f129:=Tryz.func189.trans (congrArg some (by kernel_rfl))
 f189:=Tryz.func207.trans (congrArg some (by kernel_rfl))
 f215:=Tryz.func190.trans (congrArg some (by kernel_rfl))
 f216:=Tryz.func231.trans (congrArg some (by kernel_rfl))
 f257:=Tryz.func222.trans (congrArg some (by kernel_rfl))
 f294:=Tryz.func225.trans (congrArg some (by kernel_rfl))
 f295:=Tryz.func226.trans (congrArg some (by kernel_rfl))
 f296:=Tryz.func227.trans (congrArg some (by kernel_rfl))
 f297:=Tryz.func228.trans (congrArg some (by kernel_rfl))
 f298:=Tryz.func229.trans (congrArg some (by kernel_rfl))
 f299:=Tryz.func230.trans (congrArg some (by kernel_rfl))
 f300:=Tryz.func232.trans (congrArg some (by kernel_rfl))
 f301:=Tryz.func233.trans (congrArg some (by kernel_rfl))
 f328:=Tryz.func235.trans (congrArg some (by kernel_rfl))
 f329:=Tryz.func211.trans (congrArg some (by kernel_rfl))
 f330:=Tryz.func212.trans (congrArg some (by kernel_rfl))
 f331:=Tryz.func236.trans (congrArg some (by kernel_rfl))
 f332:=Tryz.func237.trans (congrArg some (by kernel_rfl))
 f343:=Tryz.func238.trans (congrArg some (by kernel_rfl))
 t0:=underlying0
 a0:=isAgg0
 z0:=sizeOf0
 v0:=zeroValue0
 t3:=underlying3
 a3:=isAgg3
 z3:=sizeOf3
 v3:=zeroValue3
 t4:=underlying4
 a4:=isAgg4
 z4:=sizeOf4
 v4:=zeroValue4
 t5:=underlying5
 a5:=isAgg5
 z5:=sizeOf5
 v5:=zeroValue5
 t9:=underlying9
 a9:=isAgg9
 z9:=sizeOf9
 v9:=zeroValue9
 t28:=underlying22
 a28:=isAgg22
 z28:=sizeOf22
 v28:=zeroValue22
 t46:=underlying171
 a46:=isAgg171
 z46:=sizeOf171
 v46:=zeroValue171
 t51:=underlying207
 a51:=isAgg207
 z51:=sizeOf207
 v51:=zeroValue207
 t53:=underlying185
 a53:=isAgg185
 z53:=sizeOf185
 v53:=zeroValue185
 t131:=underlying188
 a131:=isAgg188
 z131:=sizeOf188
 v131:=zeroValue188
 t182:=underlying200
 a182:=isAgg200
 z182:=sizeOf200
 v182:=zeroValue200
 t183:=underlying201
 a183:=isAgg201
 z183:=sizeOf201
 v183:=zeroValue201
 t218:=underlying216
 a218:=isAgg216
 z218:=sizeOf216
 v218:=zeroValue216
 t222:=underlying220
 a222:=isAgg220
 z222:=sizeOf220
 v222:=zeroValue220
 t228:=underlying230
 a228:=isAgg230
 z228:=sizeOf230
 v228:=zeroValue230
 t229:=underlying231
 a229:=isAgg231
 z229:=sizeOf231
 v229:=zeroValue231 }
def Tryz.Rp:Go.Shelf.Ren:=⟨fun|6=>78|15=>137|14=>136|28=>188|29=>189|20=>180|21=>181|22=>182|23=>183|24=>184|25=>185|26=>186|27=>187|46=>210|47=>211|48=>212|49=>213|50=>214|57=>223|n=>n,fun|22=>26|24=>63|25=>119|3=>3|39=>171|0=>0|53=>207|55=>185|4=>4|46=>201|45=>200|50=>188|5=>5|9=>9|66=>216|70=>220|76=>230|77=>231|n=>n,fun|n=>n⟩
theorem Tryz.Y3:Go.Proofs.SlLaysF0.n6 prog Tryz.Rp:={
 mixed:=by kernel_rfl
 f6:=⟨Tryz.f78.name,by decide,Tryz.func78.trans (congrArg some (by kernel_rfl))⟩
 f14:=⟨Tryz.f136.name,by decide,Tryz.func136.trans (congrArg some (by kernel_rfl))⟩
 f15:=Tryz.func137.trans (congrArg some (by kernel_rfl))
 f20:=⟨Tryz.f180.name,by decide,Tryz.func180.trans (congrArg some (by kernel_rfl))⟩
 f21:=⟨Tryz.f181.name,by decide,Tryz.func181.trans (congrArg some (by kernel_rfl))⟩
 f22:=⟨Tryz.f182.name,by decide,Tryz.func182.trans (congrArg some (by kernel_rfl))⟩
 f23:=⟨Tryz.f183.name,by decide,Tryz.func183.trans (congrArg some (by kernel_rfl))⟩
 f24:=⟨Tryz.f184.name,by decide,Tryz.func184.trans (congrArg some (by kernel_rfl))⟩
 f25:=⟨Tryz.f185.name,by decide,Tryz.func185.trans (congrArg some (by kernel_rfl))⟩
 f26:=⟨Tryz.f186.name,by decide,Tryz.func186.trans (congrArg some (by kernel_rfl))⟩
 f27:=⟨Tryz.f187.name,by decide,Tryz.func187.trans (congrArg some (by kernel_rfl))⟩
 f28:=Tryz.func188.trans (congrArg some (by kernel_rfl))
 f29:=Tryz.func189.trans (congrArg some (by kernel_rfl))
 f46:=⟨Tryz.f210.name,by decide,Tryz.func210.trans (congrArg some (by kernel_rfl))⟩
 f47:=Tryz.func211.trans (congrArg some (by kernel_rfl))
 f48:=Tryz.func212.trans (congrArg some (by kernel_rfl))
 f49:=⟨Tryz.f213.name,by decide,Tryz.func213.trans (congrArg some (by kernel_rfl))⟩
 f50:=⟨Tryz.f214.name,by decide,Tryz.func214.trans (congrArg some (by kernel_rfl))⟩
 f57:=⟨Tryz.f223.name,by decide,Tryz.func223.trans (congrArg some (by kernel_rfl))⟩
 t0:=underlying0
 a0:=isAgg0
 z0:=sizeOf0
 v0:=zeroValue0
 t3:=underlying3
 a3:=isAgg3
 z3:=sizeOf3
 v3:=zeroValue3
 t4:=underlying4
 a4:=isAgg4
 z4:=sizeOf4
 v4:=zeroValue4
 t5:=underlying5
 a5:=isAgg5
 z5:=sizeOf5
 v5:=zeroValue5
 t9:=underlying9
 a9:=isAgg9
 z9:=sizeOf9
 v9:=zeroValue9
 t22:=underlying26
 a22:=isAgg26
 z22:=sizeOf26
 v22:=zeroValue26
 t25:=underlying119
 a25:=isAgg119
 z25:=sizeOf119
 v25:=zeroValue119
 t39:=underlying171
 a39:=isAgg171
 z39:=sizeOf171
 v39:=zeroValue171
 t45:=underlying200
 a45:=isAgg200
 z45:=sizeOf200
 v45:=zeroValue200
 t46:=underlying201
 a46:=isAgg201
 z46:=sizeOf201
 v46:=zeroValue201
 t50:=underlying188
 a50:=isAgg188
 z50:=sizeOf188
 v50:=zeroValue188
 t53:=underlying207
 a53:=isAgg207
 z53:=sizeOf207
 v53:=zeroValue207
 t55:=underlying185
 a55:=isAgg185
 z55:=sizeOf185
 v55:=zeroValue185
 t66:=underlying216
 a66:=isAgg216
 z66:=sizeOf216
 v66:=zeroValue216
 t70:=underlying220
 a70:=isAgg220
 z70:=sizeOf220
 v70:=zeroValue220
 t76:=underlying230
 a76:=isAgg230
 z76:=sizeOf230
 v76:=zeroValue230
 t77:=underlying231
 a77:=isAgg231
 z77:=sizeOf231
 v77:=zeroValue231 }
end Go.Proofs
namespace Go.Proofs.YtmcncjgbkobjnaaGreat.Am
open Go.RowKit Go.Proofs.YtmcncjgbkobjnaaGreat.P
theorem Sa {w:World} {M:Nat->Prop} {k:IntKind} {l:List Int} {u:Value} (h:RP w M (.sl false false l.length (ab (eI k) l)) u) :
  ∃A c,u=.slice A l.length c∧l.length<=c∧c<=maxLen∧(A=none->l.length=0∧c=0)∧(l≠[]->∃b o,A=some ⟨b,o,none⟩∧b<w.heap.size∧¬M b∧∀j,j<l.length->w.cell? ⟨b,o+j,none⟩=some (.int k (l.getD j 0))):=by
 cases h with
 | sl A c nl tight n xs us h1 h2 h3 h4 h5 h6 h7 h8 =>
  refine⟨A,c,rfl,h1,h2,h4,fun hl =>?_⟩
  have hne:ab (eI k) l≠[]:=by
   intro he
   have:=congrArg List.length he
   rw[mY]at this
   exact hl (aha this)
  obtain⟨b,o,rfl,hb,hM,hc⟩:=h6 hne
  refine⟨b,o,rfl,hb,hM,fun j hj =>?_⟩
  rw[hc j (by rw[mY];exact hj)]
  have hg:(ab (eI k) l)[j]? = some (.int k (l.getD j 0)):=by rw[tj];simp[List.getD,hj]
  rw[ab6 (h7 j _ hg)]
end Go.Proofs.YtmcncjgbkobjnaaGreat.Am
namespace Go.Proofs.YtmcncjgbkobjnaaGreat.Am
open Go.RowKit Go.Shelf Go.Proofs.YtmcncjgbkobjnaaGreat.P
attribute [local go_sem] Oper.semAt_some
def upto (f:Nat->Int) (k:Nat):List Int:=(List.range k).map f
theorem I9 (f:Nat->Int) (k:Nat):upto f (k+1)=upto f k++[f k]:=by simp[upto,List.range_succ]
theorem Pv (f:Nat->Int) (k:Nat):(upto f k).length=k:=by simp[upto]
theorem Z4 (zs:List Int):upto (fun j=>zs[j]?.getD 0) zs.length=zs:=by
 apply List.ext_getElem
 ·simp[upto]
 ·intro i h1 h2
  simp[upto,h2]
theorem Wf (zs:List Int) {k:Nat} (hk:k<=zs.length):upto (fun j=>zs[j]?.getD 0) k=zs.take k:=by
 apply List.ext_getElem
 ·simp[upto,hk]
 ·intro i h1 h2
  have:i<zs.length:=by simp[upto]at h1;omega
  simp[upto,this]
set_option maxRecDepth 100000 in
set_option maxHeartbeats 2000000 in
theorem RR (F:Fence) (n:Nat) (h7:F.fn 208) (hro:F.round=none) (hn:1<=n) (l Bs Bo n₀ b off len cap:Nat) (zs:List Int) (hreach:len*8<=140737488351232) (hb:b<n₀) (J Jx:List Int->World->Prop)
  (hY:∀pre x W,J pre W->pre.length<len->YieldAt F (n-1) prog l #[.int .i64 x] W fun e W' =>
   (e=.returned (.bool true)∧J (pre++[x]) W'∧Below n₀ W W')∨(e=.returned (.bool false)∧Jx (pre++[x]) W'))
  (W:World) (hBs:W.cell? ⟨Bs,Bo,none⟩=some (.slice (some ⟨b,off,none⟩) len cap)) (hc:∀j,j<len->W.cell? ⟨b,off+j,none⟩=some (.int .i64 (zs[j]?.getD 0))) (h0:J [] W) :
  CallsIn F n prog 208 #[.func (.yield l) #[] #[],.pointer (some ⟨Bs,Bo,none⟩)] W fun e W'=>(∃v,e=.returned v) ∧
   ((∃ys,ys=upto (fun j=>zs[j]?.getD 0) len∧J ys W')∨(∃pre,(∃k,k<=len∧pre=upto (fun j=>zs[j]?.getD 0) k)∧Jx pre W')):=by
 refine callsIn_of_wp func208 rfl h7 ?_ hro
 simp only[ntmps208,ahb,List.length_cons,List.length_nil,Nat.reduceAdd,Nat.reduceSub,aiq,Array.replicate_zero,ais,ait,List.nil_append,List.cons_append]
 gi_wp2
 gi_loopw [7] (fun i wr=>∃k:Nat,k<=len∧i=.int .i64 k∧J (upto (fun j=>zs[j]?.getD 0) k) wr∧Below n₀ W wr)
  (fun i _=>len-(intOf i).toNat)
 case atStart=>exact⟨0,afS _,rfl,h0,Below.refl _ _⟩
 case round =>
  obtain⟨k,hk,rfl,hJs,hnx⟩:=hrel
  have hcx:k<len->wr.cell? ⟨b,off+k,none⟩=some (.int .i64 (zs[k]?.getD 0)):=fun h=>(hnx.cell (p:=⟨b,off+k,none⟩) hb).trans (hc k h)
  by_cases hlt:k<len
  ·obtain⟨fn,tmps,assign,body,hy,hR⟩:=hY _ (zs[k]?.getD 0) wr hJs (by rw[Pv];exact hlt)
   have hcx':=hcx hlt
   gi_wp2
   apply hR.mono
   rintro e W3 (⟨rfl,hJ3,hk3⟩|⟨rfl,hJx3⟩)
   ·gi_wp2
    go_roundw
    case rel=>exact⟨k+1,by omega,by simp,by rw[I9];exact hJ3,hnx.trans hk3⟩
    case measure=>simp[intOf];omega
   ·gi_wp2
    refine bodyPost_ret (results_none rfl _ _ _) rfl ?_
    exact⟨⟨_,rfl⟩,.inr ⟨_,⟨k+1,by omega,(I9 _ _).symm⟩,hJx3⟩⟩
  ·obtain rfl:k=len:=by omega
   gi_wp2
   go_end0
   exact⟨⟨_,rfl⟩,.inl ⟨_,rfl,hJs⟩⟩
set_option maxRecDepth 100000 in
set_option maxHeartbeats 1000000 in
theorem E7 (F:Fence) (n:Nat) (h7:F.fn 208) (hro:F.round=none) (l Bs Bo cap:Nat) (A:Option Addr) (J:List Int->World->Prop) (W:World) (hBs:W.cell? ⟨Bs,Bo,none⟩=some (.slice A 0 cap)) (h0:J [] W) :
  CallsIn F n prog 208 #[.func (.yield l) #[] #[],.pointer (some ⟨Bs,Bo,none⟩)] W fun e W'=>(∃v,e=.returned v)∧J [] W':=by
 refine callsIn_of_wp func208 rfl h7 ?_ hro
 simp only[ntmps208,ahb,List.length_cons,List.length_nil,Nat.reduceAdd,Nat.reduceSub,aiq,Array.replicate_zero,ais,ait,List.nil_append,List.cons_append]
 gi_wp2
 gi_loopw [7] (fun i wr=>i=.int .i64 0∧J [] wr) (fun _ _=>0)
 case atStart=>exact⟨rfl,h0⟩
 case round =>
  obtain⟨rfl,hJs⟩:=hrel
  gi_wp2
  go_end0
  exact⟨⟨_,rfl⟩,hJs⟩
def Ints (n₀:Nat) (W:World) (sv:Value) (zs:List Int):Prop :=
 (∃A c,sv=.slice A 0 c∧zs=[])∨∃b off cap,sv=.slice (some ⟨b,off,none⟩) zs.length cap∧b<n₀∧∀j,j<zs.length->W.cell? ⟨b,off+j,none⟩=some (.int .i64 (zs[j]?.getD 0))
theorem Ints.below {n₀:Nat} {A B:World} (h:Below n₀ A B) {sv:Value} {zs:List Int} : Ints n₀ A sv zs->Ints n₀ B sv zs
 | .inl e =>.inl e
 | .inr ⟨b,off,cap,e,hb,hc⟩ =>.inr ⟨b,off,cap,e,hb,fun j hj=>(h.cell (p:=⟨b,off+j,none⟩) hb).trans (hc j hj)⟩
theorem KI (F:Fence) (n:Nat) (h7:F.fn 208) (hro:F.round=none) (hn:1<=n) (Bs Bo n₀:Nat) (sv:Value) (zs:List Int) (hreach:zs.length*8<=140737488351232) (w:World) (hBs:Bs<w.heap.size) (hn₀:n₀<=w.heap.size)
  (hc:w.cell? ⟨Bs,Bo,none⟩=some sv) (hI:Ints n₀ w sv zs) :
  SeqStopsK F n prog 208 #[.pointer (some ⟨Bs,Bo,none⟩)] (fun x:Int=>#[Value.int .i64 x]) (Below n₀) (fun ys=>ys=zs) (fun pre=>pre <+: zs) zs.length w:=fun l J Jx W hW _ _ hY h0=>by
 have hc':=(hW.cell (p:=⟨Bs,Bo,none⟩) hBs).trans hc
 rcases hI.below (hW.mono hn₀) with⟨A,c,rfl,rfl⟩|⟨b,off,cap,rfl,hb,hcs⟩
 ·exact (E7 F n h7 hro l Bs Bo _ _ J W hc' h0).mono fun e W' ⟨he,hj⟩=>⟨he,.inl ⟨_,rfl,hj⟩⟩
 ·refine (RR F n h7 hro hn l Bs Bo n₀ b off zs.length cap zs hreach hb J Jx hY W hc' hcs h0).mono ?_
  rintro e W' ⟨he,⟨ys,rfl,hj⟩|⟨pre,⟨k,hk,rfl⟩,hj⟩⟩
  ·exact⟨he,.inl ⟨_,Z4 zs,hj⟩⟩
  ·exact⟨he,.inr ⟨_,by rw[Wf zs hk];exact List.take_prefix _ _,hj⟩⟩
theorem adz:(Tryz.prog.info? 3).map (fun i=>(i.zero,i.size,i.bytes))=some (some (.int .i64 0),1,8):=by kernel_rfl
set_option maxRecDepth 100000 in
set_option maxHeartbeats 2000000 in
theorem appendSeq_in (F:Fence) (n:Nat) (h3:F.fn 221) (h7:F.fn 208) (hro:F.round=none) (hn:3<=n) (Bs Bo:Nat) (sv:Value) (zs:List Int) (hreach:zs.length*8<=140737488351232) (w:World)
  (hBs:Bs<w.heap.size) (hc:w.cell? ⟨Bs,Bo,none⟩=some sv) (hI:Ints w.heap.size w sv zs) :
  CallsIn F n prog 221 #[.slice none 0 0,.func (.func 208) #[] #[.pointer (some ⟨Bs,Bo,none⟩)]] w fun e W'=>∃v,e=.returned v∧W'.ownsRow w.heap.size 3 1 v zs.length (zs.map (Value.int .i64))∧(v=.slice none 0 0↔zs=[])∧Below w.heap.size w W':=by
 have h1:1<=n:=by omega
 obtain⟨i0,hi,hz0,hz1,hz2⟩:=info_parts adz
 refine callsIn_of_wp_marks func221 rfl h3 ?_ hro
 simp only[ntmps221,ahb,List.length_cons,List.length_nil,Nat.reduceAdd,Nat.reduceSub,aiq,Array.replicate_zero,ais,ait,List.nil_append,List.cons_append]
 gi_wp2
 have bO:=Boxed.new w 22 (.slice none 0 0)
 have hB0:Below w.heap.size w (w.alloc (.cells #[.slice none 0 0] 22)):=(Below.refl _ w).alloc (afR _) _
 refine wpIn_rangeFunc_ownG hro h1 (gf:=208) (lb:=#[.pointer (some ⟨Bs,Bo,none⟩)]) rfl h7 (enters_of func208 (by kernel_rfl) rfl)
  (KI F (n-1) h7 hro (by omega) Bs Bo w.heap.size sv zs hreach _ (by simp;omega) (by simp) ((hB0.cell (p:=⟨Bs,Bo,none⟩) hBs).trans hc) (hI.below hB0)) belowK_t (belowK_b (by simp)) (Below.refl _ _) (fun _=>rfl)
  (fun pre W=>(∃v,Boxed W w.heap.size 22 v∧W.ownsRow w.heap.size 3 1 v pre.length (pre.map (Value.int .i64))∧(v=.slice none 0 0↔pre=[]))∧Below w.heap.size w W)
  (fun _ _ _=>False)
  (OwnFrom.and (Own.from (holdsRow_own w.heap.size w.heap.size 22 3 1 (fun pre=>pre.length) (fun pre=>pre.map (Value.int .i64)) (fun pre v=>v=.slice none 0 0↔pre=[])) _) (ownFrom_below (afR _) (by simp)))
  (fun _ _ _ _ _ hs _ _=>hs)
  ⟨⟨_,bO,World.ownsRow_nil _ _ _ _,by simp⟩,hB0⟩
  (fun x=>{ tmps:=#[.slice none 0 0,.func (.func 208) #[] #[.pointer (some ⟨Bs,Bo,none⟩)],.pointer (some ⟨w.heap.size,0,none⟩),undef,.slice none 0 0,.int .i64 x,.func (.func 208) #[] #[.pointer (some ⟨Bs,Bo,none⟩)],.int .i64 x,undef,undef,undef,undef,undef],defers:=[] }) ?assign ?body ?done ?stop
 case assign =>
  intro l x W K hK
  gi_wp2
  exact hK
 case body =>
  rintro l pre x W ⟨⟨v,hv,hrow,hnil⟩,hB⟩ hlt
  have hc:=hv.cell
  gi_wp2_with (gi_at_builtin;refine wpListIn_append_own _ rfl _ _ 22 rfl w.heap.size 3 i0 (.int .i64 0) 1 8 underlying22 hi hz0 hz1 hz2 rfl (by decide) _ _ _ rfl (hrow.alloc _) ⟨W.heap.size,0,none⟩ 1 1 [.int .i64 x] rfl rfl (cell_one_new _ _ _) (by simp[Value.oneCell']) (by unfold maxLen;omega) (by omega) (by have:=hB.size;simp;omega) ?_;intro v' w1 hown' hgrow _;obtain⟨g',cap',rfl⟩:=ownsRow_succ hown';obtain⟨hv1,hv2,hr2,hk2,hb2⟩:=hv.appended (by decide) hrow hB.size (afR _) hown' hgrow;have hc1:=hv1.cell;have hf1:=hv1.frozen)
  exact⟨hk2.from _,hb2,⟨_,hv2,by simpa using hr2,by simp⟩,hB.trans hb2⟩
 case done =>
  rintro D ys W hD rfl ⟨⟨v,hv,hrow,hnil⟩,hB⟩ hK
  have hc:=hv.cell
  gi_wp2
  refine⟨by simp,.inl ⟨_,_,rfl,run_takeDeferred hK,?_⟩⟩
  exact⟨_,results_tmp rfl _ _ _,v,rfl,ownsRow_putObj hrow _ hK rfl,hnil,hB.trans (belowK_b (w:=w) (afR _) W D _ _ (by simp at hD;omega) hK rfl rfl)⟩
 case stop =>
  rintro D c pre W _ _ h _
  exact h.elim
set_option maxHeartbeats 1000000 in
theorem collect_in (F:Fence) (n:Nat) (h2:F.fn 206) (h3:F.fn 221) (h7:F.fn 208) (hro:F.round=none) (hn:4<=n) (Bs Bo:Nat) (sv:Value) (zs:List Int) (hreach:zs.length*8<=140737488351232) (w:World)
  (hBs:Bs<w.heap.size) (hc:w.cell? ⟨Bs,Bo,none⟩=some sv) (hI:Ints w.heap.size w sv zs) :
  CallsIn F n prog 206 #[.func (.func 208) #[] #[.pointer (some ⟨Bs,Bo,none⟩)]] w fun e W'=>∃v,e=.returned v∧W'.ownsRow w.heap.size 3 1 v zs.length (zs.map (Value.int .i64))∧(v=.slice none 0 0↔zs=[])∧Below w.heap.size w W':=by
 have h1:1<=n:=by omega
 refine callsIn_of_wp func206 rfl h2 ?_ hro
 simp only[ntmps206,ahb,List.length_cons,List.length_nil,Nat.reduceAdd,Nat.reduceSub,aiq,Array.replicate_zero,ais,ait,List.nil_append,List.cons_append]
 gi_wp2_with (gi_at_call 221;refine (appendSeq_in F (n-1) h3 h7 hro (by omega) Bs Bo sv zs hreach _ hBs hc hI).mono ?_;rintro e w' ⟨v,rfl,hrow,hnil,hb⟩)
 go_ret
 exact⟨v,rfl,hrow,hnil,hb⟩
theorem aa5 (a:Option Addr) (len cap:Nat) (w:World) :
  Calls prog 175 #[.slice a len cap] w fun e w'=>e=.returned (.func (.func 208) #[] #[.pointer (some ⟨w.heap.size,0,none⟩)])∧w'=w.alloc (.cells #[.slice a len cap] 22):=by
 go_enter func175,ntmps175
 go_wp2
 go_ret
 exact⟨rfl,rfl⟩
set_option maxHeartbeats 1000000 in
theorem aaZ (Bs Bo:Nat) (sv:Value) (zs:List Int) (hreach:zs.length*8<=140737488351232) (w:World) (hBs:Bs<w.heap.size) (hc:w.cell? ⟨Bs,Bo,none⟩=some sv) (hI:Ints w.heap.size w sv zs) :
  Calls prog 174 #[.func (.func 208) #[] #[.pointer (some ⟨Bs,Bo,none⟩)]] w fun e w'=>∃v,e=.returned v∧Below w.heap.size w w' ∧
   ((zs=[]∧v=.slice none 0 0)∨∃g cap cs,v=.slice (some ⟨g,0,none⟩) zs.length cap∧w.heap.size<=g∧w'.heap[g]? = some (.cells cs 3 (0,0))∧zs.length<=cap∧cap<=maxLen∧cs.size=cap∧∀j,j<zs.length->cs.getD j undef=.int .i64 ((A0 zs).getD j 0)):=by
 refine (callsIn_wide (n:=6)).1 ?_
 have hN:(1:Nat)<=6:=by omega
 have cC:=collect_in Fence.wide 5 trivial trivial trivial rfl (by omega) Bs Bo sv zs hreach w hBs hc hI
 refine callsIn_of_wp func174 rfl trivial ?_ rfl
 simp only[ntmps174,ahb,List.length_cons,List.length_nil,Nat.reduceAdd,Nat.reduceSub,aiq,Array.replicate_zero,ais,ait,List.nil_append,List.cons_append]
 have hf1:Fence.wide.fn 206:=trivial
 have hf2:Fence.wide.fn 207:=trivial
 have cS:adm prog 207:=fun blk off cap zs w hH hb hl=>Any.slices_Sort_int Tryz.Tj blk off cap zs w hH hb hl
 by_cases hz:zs=[]
 ·subst hz
  gi_wp2_with (first
   | (gi_at_call 206;refine cC.mono ?_;clear cC;rintro e w' ⟨v,rfl,hrow,hnil,hb⟩;obtain rfl:v=.slice none 0 0:=hnil.2 rfl)
   | (gi_at_call 207;refine (callsIn_wide.2 (Any.slices_Sort_int_none Tryz.Tj _ _ _)).mono ?_;rintro e2 w2 ⟨rfl,rfl⟩))
  go_ret
  first|exact⟨_,rfl,hb,.inl rfl⟩|exact⟨_,rfl,hb,.inl ⟨rfl,rfl⟩⟩
 ·gi_wp2_with (gi_at_call 206;refine cC.mono ?_;clear cC;rintro e w' ⟨v,rfl,hrow,hnil,hb⟩;obtain⟨g,cap,cur,rfl,k1,k2,k3,k4,k5,k6⟩:∃g cap cur,v=.slice (some ⟨g,0,none⟩) zs.length cap∧w.heap.size<=g∧w'.heap[g]? = some (.cells cur 3 (0,0))∧zs.length<=cap∧cap<=maxLen∧cur.size=cap*1∧cur.toList.take (zs.length*1)=zs.map (Value.int .i64):=hrow.2.resolve_left (fun hv=>hz (hnil.1 hv.1)))
  rw[Nat.mul_one]at k5 k6
  have hcur:∀j,j<zs.length->cur[j]? = some (.int .i64 (zs.getD j 0)):=by
   intro j hj
   have:(cur.toList.take zs.length)[j]? = (zs.map (Value.int .i64))[j]?:=by rw[k6]
   rw[af7,if_pos hj,afO,agI]at this
   rw[this]
   simp[List.getD,hj]
  have hH:Go.Sort.Holds (Value.int .i64) w' g 0 zs.toArray:=by
   intro j hj
   simp only[ahb]at hj
   refine⟨?_,by simp[World.frozen?,k2]⟩
   simp only[World.cell?,k2,agF]
   rw[hcur j hj]
   simp[List.getD,hj]
  have hlt:g<w'.heap.size:=(afV.1 k2).1
  gi_wp2_with (gi_at_call 207;refine (callsIn_wide.2 (cS g 0 cap zs w' hH hlt (by omega))).mono ?_;rintro e2 w2 ⟨rfl,q,os,rfl⟩)
  go_ret
  refine⟨_,rfl,?_,.inr ⟨g,cap,Go.Sort.putCells (Value.int .i64) 0 (A0 zs).toArray cur,rfl,k1,?_,k3,k4,?_,fun j hj =>?_⟩⟩
  ·refine⟨hb.os,hb.tape,hb.output,afT hb.size (by simp[Go.Sort.grow,Go.Sort.ahead]),fun k hk =>?_⟩
   have hk':k<w'.heap.size:=afU hk hb.size
   rw[Go.Sort.heap_grow_old _ _ (by simpa [Go.Sort.ahead] using hk'),Eo (by omega)]
   exact hb.block k hk
  ·rw[Go.Sort.heap_grow_old _ _ (by simpa [Go.Sort.ahead] using hlt)]
   exact OJ k2
  ·simp[Go.Sort.putCells,k5]
  ·rw[Kl (by omega),if_pos (by rw[qm];omega),Nat.sub_zero]
theorem Wg:bP prog 175 (fb (eU (pE (eI .i64))) UC (fun r =>.clean (.clo 208 0 [.ip [.sl false false r.length (ab (eI .i64) r)]]))) where
 callable:=⟨_,func175,by kernel_rfl,by kernel_rfl⟩
 calls lent ds rk out hg:=by
  obtain⟨rfl,rfl,l,r,rfl,hr,rfl⟩:=pZ hg
  cases hr
  intro w M vs hM hargs
  have hsz:vs.size=1:=hargs.size
  rw[Z5 hsz]
  have hu:=hargs.at_ 0 _ rfl
  generalize vs.getD 0 undef=u at *
  have hu':RP w M (.sl false false l.length (ab (eI .i64) l)) u:=hu
  obtain⟨A,c,rfl,-⟩:=Sa hu'
  refine (aa5 A l.length c w).mono fun e w' ⟨he,hw⟩ =>?_
  subst hw
  have hb:Below w.heap.size w (w.alloc (.cells #[.slice A l.length c] 22)):=(Below.refl _ w).alloc (afR _) _
  have hk:∀b,b<w.heap.size->¬M b->b<(w.alloc (.cells #[.slice A l.length c] 22)).heap.size∧¬M b∧(w.alloc (.cells #[.slice A l.length c] 22)).heap[b]? = w.heap[b]?:=fun b h1 h2=>⟨by simp;omega,h2,hb.block b h1⟩
  refine⟨_,he,hb,RP.clo _ 0 _ [.pointer (some ⟨w.heap.size,0,none⟩)] rfl fun j x hj =>?_⟩
  cases j with
  | succ j=>simp at hj
  | zero =>
   simp only[List.getElem?_cons_zero,af0]at hj
   subst hj
   refine RP.ip _ ⟨w.heap.size,0,none⟩ (fun _ =>.slice A l.length c) (fun _=>⟨w.heap.size,0,rfl,by simp,fun h=>by have:=hM _ h;omega,fun j hj =>?_⟩) (fun j x hj =>?_) (fun x hx =>?_)
   ·simp only[List.length_cons,List.length_nil]at hj
    have:j=0:=by omega
    subst this
    exact (aK (heap_alloc_new w _) (j:=0) (by simp)).trans rfl
   ·cases j with
    | succ j=>simp at hj
    | zero =>
     simp only[List.getElem?_cons_zero,af0]at hj
     subst hj
     exact hu'.keep hk
   ·simp only[age]at hx
    subst hx
    rfl
theorem V2:bP prog 174 (fb (eU (UN 208 0 (eU (aIp (lf (eI .i64)))))) Ky (fun r =>.fresh 3 1 r.length (ab (eI .i64) r))) where
 callable:=⟨_,func174,by kernel_rfl,by kernel_rfl⟩
 calls lent ds rk out hg:=by
  obtain⟨rfl,rfl,l,r,rfl,hr,rfl⟩:=pZ hg
  unfold Ky at hr
  split at hr
  rotate_left
  ·cases hr
  rename_i hreach
  cases hr
  intro w M vs hM hargs
  have hsz:vs.size=1:=hargs.size
  rw[Z5 hsz]
  have hu:=hargs.at_ 0 _ rfl
  generalize vs.getD 0 undef=u at *
  have hu':RP w M (.clo 208 0 [.ip [.sl false false l.length (ab (eI .i64) l)]]) u:=hu
  cases hu' with
  | clo f kk xs us h1 h2 =>
   have hp:=h2 0 _ rfl
   have hus:us=[us.getD 0 undef]:=by
    match us,h1 with
    | [x],_=>rfl
   rw[hus]
   generalize us.getD 0 undef=q at *
   cases hp with
   | ip xs ad us2 h6 h7 h8 =>
    obtain⟨b,o,rfl,hb,hMb,hcell⟩:=h6 (by simp)
    have hcell0:=hcell 0 (by simp)
    rw[agr]at hcell0
    have hs:=h7 0 _ rfl
    have hI:Ints w.heap.size w (us2 0) l:=by
     obtain⟨A,c,hA,k1,k2,k3,k4⟩:=Sa hs
     rw[hA]
     by_cases hl:l=[]
     ·subst hl;exact .inl ⟨A,c,rfl,rfl⟩
     ·obtain⟨b',o',rfl,hb',hM',hc'⟩:=k4 hl
      exact .inr ⟨b',o',c,rfl,hb',fun j hj=>by rw[hc' j hj];simp[List.getD]⟩
    refine (aaZ b o (us2 0) l hreach w hb hcell0 hI).mono fun e w' ⟨v,he,hbw,hv⟩ =>?_
    refine⟨v,he,hbw,?_⟩
    rcases hv with⟨rfl,rfl⟩|⟨g,cap,cs,rfl,k1,k2,k3,k4,k5,k6⟩
    ·refine .inr ⟨?_,?_,none,rfl⟩
     ·rw[II];rfl
     ·rw[II];rfl
    ·refine .inl ⟨(g,0),cap,cs,by rw[qm],.inl k1,k2,by rw[qm];exact k3,k4,by simp only;omega,by rw[mY,qm];simp only;omega,fun j d hj =>?_⟩
     have hjl:=(agl.1 hj).1
     rw[mY,qm]at hjl
     rw[tj,afP]at hj
     obtain⟨z,hz,rfl⟩:=hj
     simp only[agF]
     rw[k6 j hjl]
     have:(A0 l).getD j 0=z:=by simp[List.getD,hz]
     rw[this]
     exact⟨rfl,.int _ _⟩
end Go.Proofs.YtmcncjgbkobjnaaGreat.Am
