/- Part of a proof, made small by a program (wip/mini.py). -/
import Derived.Test.YtpkahnkoecbndaaGreatDoorXb
namespace Go.Proofs.YtpkahnkoecbndaaGreatDoor.Am
open Go.RowKit
set_option linter.unusedSimpArgs false
set_option linter.unusedVariables false
inductive W where
 | code (c:Code)
 | blk (id:Nat)
section
variable (T:Nat→Option Ty) (Γ:Env) (N F:Nat)
def cF:List W→Kt→Kt
 | [],Q=>Q
 | .code c::ws,Q=>fun x t h e=>U4 x (JY T Γ N F c t h e (cF ws Q)) (cF ws Q x t h e)
 | .blk id::ws,Q=>fun x t h e=>OT id x t h e (cF ws Q)
def kb (ops l:List Oper) (ws:List W) (Q:Kt) (t:Nat→D) (h:Nat→Option Row) (e:Nat):Prop :=
 BO T Γ N e ops l t h fun t h=>cF T Γ N F ws Q .normal t h (e+1)
def kc (ops l:List Oper) (ws:List W) (Q:Kt) (t:Nat→D) (h:Nat→Option Row) (e:Nat) (fs:List jH):Prop :=
 runK T Γ N e ops l t h fs fun t h fs=>Aj ops.toArray fs=true∧cF T Γ N F ws Q .normal t h (e+1)
def nH (o:Oper) (ops l:List Oper) (ws:List W) (Q:Kt) (t:Nat→D) (h:Nat→Option Row) (e:Nat):Prop :=
 RG T Γ e o t h fun t E=>kb T Γ N F ops l ws Q (dP t o.dst E.val) (a6 h E.hw) e
def nI (o:Oper) (ops l:List Oper) (ws:List W) (Q:Kt) (t:Nat→D) (h:Nat→Option Row) (e:Nat) (fs:List jH):Prop :=
 RG T Γ e o t h fun t E=>kc T Γ N F ops l ws Q (dP t o.dst E.val) (a6 h E.hw) e (fs++[⟨bB o (ev t),E.hw.isEmpty⟩])
def ti (d:D) (g:Nat) (want:Bool) (o:Oper) (ops l:List Oper) (ws:List W) (Q:Kt) (t:Nat→D) (h:Nat→Option Row) (e:Nat):Prop :=
 wpS d t g (fun t=>if want then nH T Γ N F o ops l ws Q t h e else kb T Γ N F ops l ws Q (dP t o.dst .skp) h e) (fun t=>if want then kb T Γ N F ops l ws Q (dP t o.dst .skp) h e else nH T Γ N F o ops l ws Q t h e) (fun t=>kb T Γ N F ops l ws Q (dP t o.dst .skp) h e)
def tj (d:D) (g:Nat) (want:Bool) (o:Oper) (ops l:List Oper) (ws:List W) (Q:Kt) (t:Nat→D) (h:Nat→Option Row) (e:Nat) (fs:List jH):Prop :=
 wpS d t g (fun t=>if want then nI T Γ N F o ops l ws Q t h e fs else kc T Γ N F ops l ws Q (dP t o.dst .skp) h e (fs++[⟨[],true⟩])) (fun t=>if want then kc T Γ N F ops l ws Q (dP t o.dst .skp) h e (fs++[⟨[],true⟩]) else nI T Γ N F o ops l ws Q t h e fs) (fun t=>kc T Γ N F ops l ws Q (dP t o.dst .skp) h e (fs++[⟨[],true⟩]))
def uE (x:Option dj) (dst:Option Nat) (ops l:List Oper) (ws:List W) (Q:Kt) (t:Nat→D) (h:Nat→Option Row) (e:Nat):Prop :=
 rN x fun E=>kb T Γ N F ops l ws Q (dP t dst E.val) (a6 h E.hw) e
def uF (x:Option dj) (dst:Option Nat) (ft:List Nat) (ops l:List Oper) (ws:List W) (Q:Kt) (t:Nat→D) (h:Nat→Option Row) (e:Nat) (fs:List jH):Prop :=
 rN x fun E=>kc T Γ N F ops l ws Q (dP t dst E.val) (a6 h E.hw) e (fs++[⟨ft,E.hw.isEmpty⟩])
def Gs (d:D) (g:Nat) (x y:Code) (ws:List W) (Q:Kt) (t:Nat→D) (h:Nat→Option Row) (e:Nat):Prop :=
 Lr d t g (fun t=>cF T Γ N F (.code x::ws) Q .normal t h e) (fun t=>cF T Γ N F (.code y::ws) Q .normal t h e)
def Qp (d:D) (g:Nat) (a b:Operand) (dst:Option Nat) (ops l:List Oper) (ws:List W) (Q:Kt) (t:Nat→D) (h:Nat→Option Row) (e:Nat):Prop :=
 Lr d t g (fun t=>kb T Γ N F ops l ws Q (dP t dst (ev t a)) h e) (fun t=>kb T Γ N F ops l ws Q (dP t dst (ev t b)) h e)
def Qq (d:D) (g:Nat) (a b:Operand) (dst:Option Nat) (ops l:List Oper) (ws:List W) (Q:Kt) (t:Nat→D) (h:Nat→Option Row) (e:Nat) (fs:List jH):Prop :=
 Lr d t g (fun t=>kc T Γ N F ops l ws Q (dP t dst (ev t a)) h e (fs++[⟨[],true⟩])) (fun t=>kc T Γ N F ops l ws Q (dP t dst (ev t b)) h e (fs++[⟨[],true⟩]))
def MI (b:Code) (ws:List W) (Q:Kt) (t:Nat→D) (h:Nat→Option Row) (e:Nat):Prop:=JY T Γ N F (.loop b) t h e (cF T Γ N F ws Q)
end
theorem Eb {n:Nat} (h:n≤1000000):n≤maxLen:=Nat.le_trans h (by decide)
theorem EH {z:List D} : nq 0 z=[]:=Eq.trans rfl rfl
theorem EG {n:Nat} {z:List D} : nq (n+1) z=z++nq n z:=by simp[nq,List.replicate_succ]
theorem D0 {N:Nat} : fits N none=true:=Eq.trans rfl rfl
theorem D1 {N i:Nat} : fits N (some i)=decide (i<N):=Eq.trans rfl rfl
def rp:List Oper→Nat→Nat
 | [],_=>0
 | o::_,0=>o.dst.getD 0
 | _::l,j+1=>rp l j
def vw:List Oper→Nat→Bool
 | [],_=>false
 | o::_,0=>o.dst.isSome
 | _::l,j+1=>vw l j
theorem Af:∀(l:List Oper) (j:Nat),vw l j=true→(l[j]?).bind (·.dst)=some (rp l j)
 | [],j,h=>by simp[vw]at h
 | o::l,0,h=>by
  simp only[vw]at h
  simp only[List.getElem?_cons_zero,Option.bind_some,rp]
  cases hd:o.dst with
  | none=>rw[hd]at h;cases h
  | some d=>rfl
 | o::l,j+1,h=>by simpa [rp] using Af l j h
theorem Ah {d:Nat} {op:Op} {ty:Nat} {pos:String} {af:Array Edge} {gd:Option (Nat×Bool)} {l:List Oper} : rp (⟨some d,op,ty,pos,af,gd⟩::l) 0=d:=Eq.trans rfl rfl
theorem Ag {o:Oper} {l:List Oper} {j:Nat} : rp (o::l) (j+1)=rp l j:=Eq.trans rfl rfl
theorem AT {d:Nat} {op:Op} {ty:Nat} {pos:String} {af:Array Edge} {gd:Option (Nat×Bool)} {l:List Oper} : vw (⟨some d,op,ty,pos,af,gd⟩::l) 0=true:=Eq.trans rfl rfl
theorem AS {o:Oper} {l:List Oper} {j:Nat} : vw (o::l) (j+1)=vw l j:=Eq.trans rfl rfl
section
variable {dst:Option Nat} {ty:Nat} {pos:String} {af:Array Edge} {gd:Option (Nat×Bool)} {vs:Operand→D}
def vE (vs:Operand→D):List Operand→List Nat
 | []=>[]
 | x::l=>nm (vs x)++vE vs l
theorem ey (vs:Operand→D):∀l:List Operand,(l.flatMap fun x=>nm (vs x))=vE vs l
 | []=>Eq.trans rfl rfl
 | x::l=>by rw[List.flatMap_cons,ey vs l];exact Eq.trans rfl rfl
theorem MA:vE vs []=[]:=Eq.trans rfl rfl
theorem I0 {x:Operand} {l:List Operand} : vE vs (x::l)=nm (vs x)++vE vs l:=Eq.trans rfl rfl
theorem yx {o:BinOp} {tt z:Nat} {x y:Operand} : bB ⟨dst,.binOp o tt x y z,ty,pos,af,gd⟩ vs=vE vs [x,y]++dst.toList:=by rw[← ey];rfl
theorem B0 {o:UnOp} {tt:Nat} {x:Operand} : bB ⟨dst,.unOp o tt x,ty,pos,af,gd⟩ vs=vE vs [x]++dst.toList:=by rw[← ey];rfl
theorem v8 {x:Operand} : bB ⟨dst,.assign x,ty,pos,af,gd⟩ vs=vE vs [x]++dst.toList:=by rw[← ey];rfl
theorem BZ {tt:Nat} {x:Operand} : bB ⟨dst,.load tt x,ty,pos,af,gd⟩ vs=vE vs [x]++dst.toList:=by rw[← ey];rfl
theorem yC {tt:Nat} {x y:Operand} : bB ⟨dst,.store tt x y,ty,pos,af,gd⟩ vs=vE vs [x,y]++dst.toList:=by rw[← ey];rfl
theorem sg {x:Operand} : bB ⟨dst,.nilCheck x,ty,pos,af,gd⟩ vs=vE vs [x]++dst.toList:=by rw[← ey];rfl
theorem qE {tt i:Nat} {x:Operand} : bB ⟨dst,.fieldAddr tt x i,ty,pos,af,gd⟩ vs=vE vs [x]++dst.toList:=by rw[← ey];rfl
theorem yz {tt i:Nat} {x:Operand} : bB ⟨dst,.field tt x i,ty,pos,af,gd⟩ vs=vE vs [x]++dst.toList:=by rw[← ey];rfl
theorem qF {tt:Nat} {x i:Operand} : bB ⟨dst,.indexAddr tt x i,ty,pos,af,gd⟩ vs=vE vs [x,i]++dst.toList:=by rw[← ey];rfl
theorem yA {tt:Nat} {x i:Operand} : bB ⟨dst,.index tt x i,ty,pos,af,gd⟩ vs=vE vs [x,i]++dst.toList:=by rw[← ey];rfl
theorem qG {tt:Nat} {x y:Operand} : bB ⟨dst,.makeSlice tt x y,ty,pos,af,gd⟩ vs=vE vs [x,y]++dst.toList:=by rw[← ey];rfl
theorem yw {tt:Nat} : bB ⟨dst,.alloc tt,ty,pos,af,gd⟩ vs=vE vs []++dst.toList:=by rw[← ey];rfl
theorem EW {tt:Nat} {x:Operand} : bB ⟨dst,.box tt x,ty,pos,af,gd⟩ vs=vE vs [x]++dst.toList:=by rw[← ey];rfl
theorem tT {tt:Nat} : bB ⟨dst,.makeMap tt none,ty,pos,af,gd⟩ vs=vE vs []++dst.toList:=by rw[← ey];rfl
theorem wb {tt:Nat} {m i:Operand} {ok:Bool} : bB ⟨dst,.lookup tt m i ok,ty,pos,af,gd⟩ vs=vE vs [m,i]++dst.toList:=by rw[← ey];rfl
theorem qH {tt:Nat} {m i x:Operand} : bB ⟨dst,.mapUpdate tt m i x,ty,pos,af,gd⟩ vs=vE vs [m,i,x]++dst.toList:=by rw[← ey];rfl
theorem wa {tt:Nat} {m i x:Operand} : bB ⟨dst,.insert tt m i x,ty,pos,af,gd⟩ vs=vE vs [m,i,x]++dst.toList:=by rw[← ey];rfl
theorem tR {a b:Nat} {x:Operand} : bB ⟨dst,.convert a b x,ty,pos,af,gd⟩ vs=vE vs [x]++dst.toList:=by rw[← ey];rfl
theorem tS {x:Operand} {i:Nat} : bB ⟨dst,.extract x i,ty,pos,af,gd⟩ vs=vE vs [x]++dst.toList:=by rw[← ey];rfl
theorem yy {tt:Nat} {ps:List (Nat×Operand)} : bB ⟨dst,.build tt ps.toArray,ty,pos,af,gd⟩ vs=vE vs (ps.map (·.2))++dst.toList:=by rw[← ey];rfl
theorem oT {tt len:Nat} {ps:List (Nat×Operand)} : bB ⟨dst,.buildSlice tt len ps.toArray,ty,pos,af,gd⟩ vs=vE vs (ps.map (·.2))++dst.toList:=by rw[← ey];rfl
theorem yB {tt:Nat} {x:Operand} {lo hi mx:Option Operand} : bB ⟨dst,.slice tt x lo hi mx,ty,pos,af,gd⟩ vs=vE vs (x::(lo.toList++(hi.toList++mx.toList)))++dst.toList:=by
 rw[← ey];cases lo<;>cases hi<;>cases mx<;>rfl
theorem BY {x:Operand} {l:List Operand} {tys:Array Nat} : bB ⟨dst,.call ⟨.value x,l.toArray,tys⟩,ty,pos,af,gd⟩ vs=vE vs (x::l)++dst.toList:=by
 rw[← ey];simp[bB,Op.operands,Call.operands]
theorem tQ {x:Builtin} {l:List Operand} {tys:Array Nat} : bB ⟨dst,.call ⟨.builtin x,l.toArray,tys⟩,ty,pos,af,gd⟩ vs=vE vs l++dst.toList:=by
 rw[← ey];simp[bB,Op.operands,Call.operands]
end
section
variable {T:Nat→Option Ty} {ty e:Nat} {dst:Option Nat} {h:Nat→Option Row}
theorem LP {k:IntKind} {n:Int} : bq T ty e dst h (.int k n)=some ⟨.int k n,[]⟩:=Eq.trans rfl rfl
theorem GF {b:Bool} : bq T ty e dst h (.bool b)=some ⟨.bool b,[]⟩:=Eq.trans rfl rfl
theorem LU {b:ByteArray} : bq T ty e dst h (.str b)=some ⟨.str b,[]⟩:=Eq.trans rfl rfl
theorem OQ {tg:Bool} {n:Nat} {xs:List D} : bq T ty e dst h (.sl false tg n xs)=some ⟨.sl false tg n xs,[]⟩:=Eq.trans rfl rfl
theorem LS {x v o:Nat} : bq T ty e dst h (.ptr x v o)=some ⟨.ptr x v o,[]⟩:=Eq.trans rfl rfl
theorem ON {xs:List D} : bq T ty e dst h (.ip xs)=some ⟨.ip xs,[]⟩:=Eq.trans rfl rfl
theorem LN {xs:List D} : bq T ty e dst h (.agg xs)=some ⟨.agg xs,[]⟩:=Eq.trans rfl rfl
theorem LV {xs:List D} : bq T ty e dst h (.tup xs)=some ⟨.tup xs,[]⟩:=Eq.trans rfl rfl
theorem OM {f:Nat} : bq T ty e dst h (.fn f)=some ⟨.fn f,[]⟩:=Eq.trans rfl rfl
theorem OO {x v:Nat} : bq T ty e dst h (.mp x v)=some ⟨.mp x v,[]⟩:=Eq.trans rfl rfl
theorem LQ {ks:List Int} {vs:List D} : bq T ty e dst h (.mpc ks vs)=some ⟨.mpc ks vs,[]⟩:=Eq.trans rfl rfl
theorem OP {x v y:Nat} : bq T ty e dst h (.pm x v y)=some ⟨.pm x v y,[]⟩:=Eq.trans rfl rfl
theorem y7 {f kk:Nat} {xs:List D} : bq T ty e dst h (.clo f kk xs)=some ⟨.clo f kk xs,[]⟩:=Eq.trans rfl rfl
def TM (b:Bool) (T:Nat→Option Ty) (ty e d:Nat) (h:Nat→Option Row) (x:D):Option dj:=if b then bq T ty e (some d) h x else fE h x
theorem C4 {d:Nat} {x:D} : TM true T ty e d h x=bq T ty e (some d) h x:=Eq.trans rfl rfl
theorem zy {d:Nat} {x:D} : TM false T ty e d h x=fE h x:=Eq.trans rfl rfl
theorem SY {q:Nat→Bool} {d:Nat} {x:D} : ov T q ty e (some d) h x=TM (q d) T ty e d h x:=Eq.trans rfl rfl
theorem LI {k:IntKind} {n:Int} : fE h (.int k n)=some ⟨.int k n,[]⟩:=Eq.trans rfl rfl
theorem Gy {b:Bool} : fE h (.bool b)=some ⟨.bool b,[]⟩:=Eq.trans rfl rfl
theorem LJ {b:ByteArray} : fE h (.str b)=some ⟨.str b,[]⟩:=Eq.trans rfl rfl
theorem LG {xs:List D} : fE h (.agg xs)=some ⟨.agg (xs.map canon),[]⟩:=Eq.trans rfl rfl
theorem OG {a b:Bool} {n:Nat} {xs:List D} : fE h (.sl a b n xs)=some ⟨.sl false false n xs,[]⟩:=Eq.trans rfl rfl
theorem LW:bq T ty e dst h .und=some ⟨.und,[]⟩:=Eq.trans rfl rfl
def R1 (e d y s o n:Nat) (r:Row):Bool→Option dj
 | true=>some ⟨.buf y r.v s o n,[]⟩
 | false=>some ⟨.buf d e s o n,[(y,none),(d,some { r with v:=e })]⟩
theorem zx {d y s o n:Nat} {r:Row} : R1 e d y s o n r false=some ⟨.buf d e s o n,[(y,none),(d,some { r with v:=e })]⟩:=Eq.trans rfl rfl
def TL (e:Nat) (dst:Option Nat) (y s o n:Nat):Option Row→Option dj
 | some r=>match dst with|some d=>R1 e d y s o n r r.fz|none=>some ⟨.und,[]⟩
 | none=>some ⟨.und,[]⟩
theorem C2 {d y s o n:Nat} {r:Row} : TL e (some d) y s o n (some r)=R1 e d y s o n r r.fz:=Eq.trans rfl rfl
theorem LO {d y v s o n:Nat} : bq T ty e (some d) h (.buf y v s o n)=TL e (some d) y s o n (live h y v):=by
 simp only[bq]
 cases hl:live h y v with
 | none=>rfl
 | some r =>
  obtain⟨_,hv⟩:=bx hl
  simp only[TL]
  cases hz:r.fz<;>simp[R1,hv,hz]
def R2 (e:Nat) (dst:Option Nat) (T:Nat→Option Ty):Option Ty→Option dj
 | some τ =>
  match dst with
  | some d=>match τ.ds with
   | .slice el=>match T el with|some φ=>some ⟨.buf d e φ.size 0 0,[(d,some ⟨e,el,[],false,true,false⟩)]⟩|none=>none
   | _=>none
  | none=>none
 | none=>none
theorem C3 {d el b c:Nat} {z:List Value} {q:Bool} {φ:Ty} (hφ:T el=some φ):R2 e (some d) T (some ⟨.slice el,b,c,z,q⟩)=some ⟨.buf d e φ.size 0 0,[(d,some ⟨e,el,[],false,true,false⟩)]⟩:=by simp only[R2,hφ]
theorem LR:bq T ty e dst h (.sl true true 0 [])=R2 e dst T (T ty):=by
 unfold bq R2
 cases dst<;>cases T ty<;>rfl
end
def T8 (x:Option D):Option dj:=match x with|some d=>some ⟨d,[]⟩|none=>none
theorem I2 (d:D):T8 (some d)=some ⟨d,[]⟩:=Eq.trans rfl rfl
def xg (x:Option Ty) (f:Ty→Option dj):Option dj:=match x with|some τ=>f τ|none=>none
theorem Jd (τ:Ty) (f:Ty→Option dj):xg (some τ) f=f τ:=Eq.trans rfl rfl
def TP (x:Option (List D×List Nat)) (h:Nat→Option Row) (ty d e:Nat):Option dj :=
 match x with
 | some (cs,fr)=>if fr.contains d=false then some ⟨.ptr d e 0,gO h fr++[(d,some ⟨e,ty,cs,false,false,false⟩)]⟩ else none
 | none=>none
theorem C9 (cs:List D) (fr:List Nat) (h:Nat→Option Row) (ty d e:Nat):TP (some (cs,fr)) h ty d e=if fr.contains d=false then some ⟨.ptr d e 0,gO h fr++[(d,some ⟨e,ty,cs,false,false,false⟩)]⟩ else none:=Eq.trans rfl rfl
def Sz (d e:Nat):Option Nat→D
 | some y =>.pm d e y
 | none =>.ptr d e 0
theorem Ep {d e y:Nat} : Sz d e (some y)=.pm d e y:=Eq.trans rfl rfl
theorem Eo {d e:Nat} : Sz d e none=.ptr d e 0:=Eq.trans rfl rfl
def zu (x:Option Ty) (ty d e:Nat) (y:Option Nat):Option dj :=
 match x with
 | some τ=>if (τ.zero.map oN).all aO then some ⟨Sz d e y,[(d,some ⟨e,ty,τ.zero.map oN,false,false,false⟩)]⟩ else none
 | none=>none
theorem xu (τ:Ty) (ty d e:Nat) (y:Option Nat):zu (some τ) ty d e y=if (τ.zero.map oN).all aO then some ⟨Sz d e y,[(d,some ⟨e,ty,τ.zero.map oN,false,false,false⟩)]⟩ else none:=Eq.trans rfl rfl
def UX (T:Nat→Option Ty) (x:Option Ty) (ty e d:Nat):Option dj:=match x with|some τ=>mX T ty τ e d|none=>none
def Pd (x y:Option Ty) (d:D):Option dj :=
 match x,y,d with
 | some τ,some _,.int _ n=>(match τ.ds with | .int k=>some ⟨.int k (k.wrap n),[]⟩|_=>none)
 | _,_,_=>none
theorem Dt (k:IntKind) (b c:Nat) (z:List Value) (q:Bool) (σ:Ty) (k':IntKind) (n:Int):Pd (some ⟨.int k,b,c,z,q⟩) (some σ) (.int k' n)=some ⟨.int k (k.wrap n),[]⟩:=Eq.trans rfl rfl
def Sg (d:D) (i:Nat):Option dj:=match d with | .tup xs=>(match xs[i]? with|some d=>some ⟨d,[]⟩|none=>none)|_=>none
theorem HH (xs:List D) (i:Nat):Sg (.tup xs) i=T8 xs[i]?:=by simp only[Sg,T8]
section
variable {T:Nat→Option Ty} {Γ:Env} {N F e:Nat} {ws:List W} {Q:Kt} {t:Nat→D} {h:Nat→Option Row}
theorem cu {x:Ex} : cF T Γ N F [] Q x t h e=Q x t h e:=Eq.trans rfl rfl
theorem ER:cF T Γ N F (.code .skip::ws) Q .normal t h e=cF T Γ N F ws Q .normal t h e:=Eq.trans rfl rfl
theorem Jr {a b:Code} : cF T Γ N F (.code (.seq a b)::ws) Q .normal t h e=cF T Γ N F (.code a :: .code b::ws) Q .normal t h e:=Eq.trans rfl rfl
theorem Jq:cF T Γ N F (.code .ret::ws) Q .normal t h e=cF T Γ N F ws Q .ret t h e:=Eq.trans rfl rfl
theorem EO {id:Nat} : cF T Γ N F (.code (.exit id)::ws) Q .normal t h e=cF T Γ N F ws Q (.exit id) t h e:=Eq.trans rfl rfl
theorem BP {id:Nat} {b:Code} : cF T Γ N F (.code (.block id b)::ws) Q .normal t h e=cF T Γ N F (.code b :: .blk id::ws) Q .normal t h e:=Eq.trans rfl rfl
theorem EP {b:Code} : cF T Γ N F (.code (.loop b)::ws) Q .normal t h e=MI T Γ N F b ws Q t h e:=Eq.trans rfl rfl
theorem aZ {c:Code} : cF T Γ N F (.code c::ws) Q .ret t h e=cF T Γ N F ws Q .ret t h e:=Eq.trans rfl rfl
theorem aR {c:Code} {n:Nat} : cF T Γ N F (.code c::ws) Q (.exit n) t h e=cF T Γ N F ws Q (.exit n) t h e:=Eq.trans rfl rfl
theorem qB {id:Nat} : cF T Γ N F (.blk id::ws) Q .normal t h e=cF T Γ N F ws Q .normal t h e:=Eq.trans rfl rfl
theorem bc {id:Nat} : cF T Γ N F (.blk id::ws) Q .ret t h e=cF T Γ N F ws Q .ret t h e:=Eq.trans rfl rfl
theorem tM {id n:Nat} : cF T Γ N F (.blk id::ws) Q (.exit n) t h e=if n=id then cF T Γ N F ws Q .normal t h e else cF T Γ N F ws Q (.exit n) t h e:=Eq.trans rfl rfl
theorem yq {i:Nat} {ops:List Oper} : cF T Γ N F (.code (.region i ops.toArray false)::ws) Q .normal t h e=kb T Γ N F ops ops ws Q t h e:=Eq.trans rfl rfl
theorem BS {i:Nat} {ops:List Oper} : cF T Γ N F (.code (.region i ops.toArray true)::ws) Q .normal t h e=kc T Γ N F ops ops ws Q t h e []:=Eq.trans rfl rfl
theorem EN {g:Nat} {x y:Code} : cF T Γ N F (.code (.cond (.tmp g) x y)::ws) Q .normal t h e=Gs T Γ N F (t g) g x y ws Q t h e:=Eq.trans rfl rfl
theorem BR {x y:Code} : cF T Γ N F (.code (.cond (.const (.bool true)) x y)::ws) Q .normal t h e=cF T Γ N F (.code x::ws) Q .normal t h e:=Eq.trans rfl rfl
theorem BQ {x y:Code} : cF T Γ N F (.code (.cond (.const (.bool false)) x y)::ws) Q .normal t h e=cF T Γ N F (.code y::ws) Q .normal t h e:=Eq.trans rfl rfl
theorem EY {g:Nat} {x y:Code} (hg:t g=.bool true):Gs T Γ N F (.bool true) g x y ws Q t h e=cF T Γ N F (.code x::ws) Q .normal t h e:=wh hg
theorem B1 {g:Nat} {x y:Code} (hg:t g=.bool false):Gs T Γ N F (.bool false) g x y ws Q t h e=cF T Γ N F (.code y::ws) Q .normal t h e:=sZ hg
theorem Oh {b:Bool} {g:Nat} {x y:Code} : Gs T Γ N F (.bool b) g x y ws Q t h e=br b (cF T Γ N F (.code x::ws) Q .normal (dx t g (.bool true)) h e) (cF T Γ N F (.code y::ws) Q .normal (dx t g (.bool false)) h e):=by
 unfold Gs;rw[RF];cases b<;>simp[br]
variable {ops l:List Oper} {dst:Option Nat} {op:Op} {ty:Nat} {pos:String} {af:Array Edge} {gd:Option (Nat×Bool)} {fs:List jH}
theorem Jo:kb T Γ N F ops [] ws Q t h e=cF T Γ N F ws Q .normal t h (e+1):=Eq.trans rfl rfl
theorem EL (hf:fits N dst=true):kb T Γ N F ops (⟨dst,op,ty,pos,af,none⟩::l) ws Q t h e=nH T Γ N F ⟨dst,op,ty,pos,af,none⟩ ops l ws Q t h e:=by
 simp only[kb,BO,RI,hf,true_and,nH]
theorem BM {j:Nat} {want:Bool} (hf:fits N dst=true) (hj:vw ops j=true):kb T Γ N F ops (⟨dst,op,ty,pos,af,some (j,want)⟩::l) ws Q t h e=ti T Γ N F (t (rp ops j)) (rp ops j) want ⟨dst,op,ty,pos,af,none⟩ ops l ws Q t h e:=by
 simp only[kb,BO,RI,hf,true_and,Af ops j hj,pO,ti]
 cases want<;>rfl
theorem JL {g:Nat} {want:Bool} {o:Oper} : ti T Γ N F .skp g want o ops l ws Q t h e=kb T Γ N F ops l ws Q (dP t o.dst .skp) h e:=Eq.trans rfl rfl
theorem EZ {g:Nat} {o:Oper} (hg:t g=.bool true):ti T Γ N F (.bool true) g true o ops l ws Q t h e=nH T Γ N F o ops l ws Q t h e:=(wo hg).trans (if_pos rfl)
theorem B2 {g:Nat} {o:Oper} (hg:t g=.bool false):ti T Γ N F (.bool false) g true o ops l ws Q t h e=kb T Γ N F ops l ws Q (dP t o.dst .skp) h e:=(s5 hg).trans (if_pos rfl)
theorem B3 {g:Nat} {o:Oper} (hg:t g=.bool true):ti T Γ N F (.bool true) g false o ops l ws Q t h e=kb T Γ N F ops l ws Q (dP t o.dst .skp) h e:=(wo hg).trans (if_neg (by decide))
theorem yD {g:Nat} {o:Oper} (hg:t g=.bool false):ti T Γ N F (.bool false) g false o ops l ws Q t h e=nH T Γ N F o ops l ws Q t h e:=(s5 hg).trans (if_neg (by decide))
theorem Oi {b:Bool} {g:Nat} {o:Oper} : ti T Γ N F (.bool b) g true o ops l ws Q t h e=br b (nH T Γ N F o ops l ws Q (dx t g (.bool true)) h e) (kb T Γ N F ops l ws Q (dP (dx t g (.bool false)) o.dst .skp) h e):=by
 unfold ti;rw[wm];cases b<;>simp[br]
theorem Li {b:Bool} {g:Nat} {o:Oper} : ti T Γ N F (.bool b) g false o ops l ws Q t h e=br b (kb T Γ N F ops l ws Q (dP (dx t g (.bool true)) o.dst .skp) h e) (nH T Γ N F o ops l ws Q (dx t g (.bool false)) h e):=by
 unfold ti;rw[wm];cases b<;>simp[br]
theorem Jp:kc T Γ N F ops [] ws Q t h e fs=(Aj ops.toArray fs=true∧cF T Γ N F ws Q .normal t h (e+1)):=Eq.trans rfl rfl
theorem EM (hf:fits N dst=true):kc T Γ N F ops (⟨dst,op,ty,pos,af,none⟩::l) ws Q t h e fs=nI T Γ N F ⟨dst,op,ty,pos,af,none⟩ ops l ws Q t h e fs:=by
 simp only[kc,runK,RI,hf,true_and,nI]
theorem BN {j:Nat} {want:Bool} (hf:fits N dst=true) (hj:vw ops j=true):kc T Γ N F ops (⟨dst,op,ty,pos,af,some (j,want)⟩::l) ws Q t h e fs=tj T Γ N F (t (rp ops j)) (rp ops j) want ⟨dst,op,ty,pos,af,none⟩ ops l ws Q t h e fs:=by
 simp only[kc,runK,RI,hf,true_and,Af ops j hj,pO,tj]
 cases want<;>rfl
theorem JO {g:Nat} {want:Bool} {o:Oper} : tj T Γ N F .skp g want o ops l ws Q t h e fs=kc T Γ N F ops l ws Q (dP t o.dst .skp) h e (fs++[⟨[],true⟩]):=Eq.trans rfl rfl
theorem E0 {g:Nat} {o:Oper} (hg:t g=.bool true):tj T Γ N F (.bool true) g true o ops l ws Q t h e fs=nI T Γ N F o ops l ws Q t h e fs:=(wo hg).trans (if_pos rfl)
theorem B4 {g:Nat} {o:Oper} (hg:t g=.bool false):tj T Γ N F (.bool false) g true o ops l ws Q t h e fs=kc T Γ N F ops l ws Q (dP t o.dst .skp) h e (fs++[⟨[],true⟩]):=(s5 hg).trans (if_pos rfl)
theorem B5 {g:Nat} {o:Oper} (hg:t g=.bool true):tj T Γ N F (.bool true) g false o ops l ws Q t h e fs=kc T Γ N F ops l ws Q (dP t o.dst .skp) h e (fs++[⟨[],true⟩]):=(wo hg).trans (if_neg (by decide))
theorem yE {g:Nat} {o:Oper} (hg:t g=.bool false):tj T Γ N F (.bool false) g false o ops l ws Q t h e fs=nI T Γ N F o ops l ws Q t h e fs:=(s5 hg).trans (if_neg (by decide))
theorem Oj {b:Bool} {g:Nat} {o:Oper} : tj T Γ N F (.bool b) g true o ops l ws Q t h e fs=br b (nI T Γ N F o ops l ws Q (dx t g (.bool true)) h e fs) (kc T Γ N F ops l ws Q (dP (dx t g (.bool false)) o.dst .skp) h e (fs++[⟨[],true⟩])):=by
 unfold tj;rw[wm];cases b<;>simp[br]
theorem Lj {b:Bool} {g:Nat} {o:Oper} : tj T Γ N F (.bool b) g false o ops l ws Q t h e fs=br b (kc T Γ N F ops l ws Q (dP (dx t g (.bool true)) o.dst .skp) h e (fs++[⟨[],true⟩])) (nI T Γ N F o ops l ws Q (dx t g (.bool false)) h e fs):=by
 unfold tj;rw[wm];cases b<;>simp[br]
theorem JF {d:D} {hw:List (Nat×Option Row)} : uE T Γ N F (some ⟨d,hw⟩) dst ops l ws Q t h e=kb T Γ N F ops l ws Q (dP t dst d) (a6 h hw) e:=Eq.trans rfl rfl
theorem JG {d:D} {hw:List (Nat×Option Row)} {ft:List Nat} : uF T Γ N F (some ⟨d,hw⟩) dst ft ops l ws Q t h e fs=kc T Γ N F ops l ws Q (dP t dst d) (a6 h hw) e (fs++[⟨ft,hw.isEmpty⟩]):=Eq.trans rfl rfl
theorem MM {c:Prop} [Decidable c] {E:dj} : uE T Γ N F (if c then some E else none) dst ops l ws Q t h e=(c∧uE T Γ N F (some E) dst ops l ws Q t h e):=by
 by_cases hc:c<;>simp[hc,uE,rN]
theorem MN {c:Prop} [Decidable c] {E:dj} {ft:List Nat} : uF T Γ N F (if c then some E else none) dst ft ops l ws Q t h e fs=(c∧uF T Γ N F (some E) dst ft ops l ws Q t h e fs):=by
 by_cases hc:c<;>simp[hc,uF,rN]
theorem Bm {g:Nat} {a b:Operand} (hg:t g=.bool true):Qp T Γ N F (.bool true) g a b dst ops l ws Q t h e=kb T Γ N F ops l ws Q (dP t dst (ev t a)) h e:=wh hg
theorem xZ {g:Nat} {a b:Operand} (hg:t g=.bool false):Qp T Γ N F (.bool false) g a b dst ops l ws Q t h e=kb T Γ N F ops l ws Q (dP t dst (ev t b)) h e:=sZ hg
theorem Bn {g:Nat} {a b:Operand} (hg:t g=.bool true):Qq T Γ N F (.bool true) g a b dst ops l ws Q t h e fs=kc T Γ N F ops l ws Q (dP t dst (ev t a)) h e (fs++[⟨[],true⟩]):=wh hg
theorem yb {g:Nat} {a b:Operand} (hg:t g=.bool false):Qq T Γ N F (.bool false) g a b dst ops l ws Q t h e fs=kc T Γ N F ops l ws Q (dP t dst (ev t b)) h e (fs++[⟨[],true⟩]):=sZ hg
theorem Ho {c:Nat} {a b:Operand} : nH T Γ N F ⟨dst,.pick (.tmp c) a b,ty,pos,af,gd⟩ ops l ws Q t h e=Qp T Γ N F (t c) c a b dst ops l ws Q t h e:=Eq.trans rfl rfl
theorem Hu {c:Nat} {a b:Operand} : nI T Γ N F ⟨dst,.pick (.tmp c) a b,ty,pos,af,gd⟩ ops l ws Q t h e fs=Qq T Γ N F (t c) c a b dst ops l ws Q t h e fs:=Eq.trans rfl rfl
theorem Hn {x:Operand} : nH T Γ N F ⟨dst,.move x,ty,pos,af,gd⟩ ops l ws Q t h e=kb T Γ N F ops l ws Q (dP t dst (ev t x)) h e:=Eq.trans rfl rfl
theorem Ht {x:Operand} : nI T Γ N F ⟨dst,.move x,ty,pos,af,gd⟩ ops l ws Q t h e fs=kc T Γ N F ops l ws Q (dP t dst (ev t x)) h e (fs++[⟨[],true⟩]):=Eq.trans rfl rfl
theorem dk {x:Option dj} (hp:∀c a b,op ≠ .pick c a b) (hx:kT T Γ e ⟨dst,op,ty,pos,af,gd⟩ (ev t) h=x):nH T Γ N F ⟨dst,op,ty,pos,af,gd⟩ ops l ws Q t h e=uE T Γ N F x dst ops l ws Q t h e:=by
 subst hx
 unfold nH uE RG
 cases op<;>first|rfl|exact absurd rfl (hp _ _ _)
theorem dm {x:Option dj} (hp:∀c a b,op ≠ .pick c a b) (hx:kT T Γ e ⟨dst,op,ty,pos,af,gd⟩ (ev t) h=x):nI T Γ N F ⟨dst,op,ty,pos,af,gd⟩ ops l ws Q t h e fs=uF T Γ N F x dst (bB ⟨dst,op,ty,pos,af,gd⟩ (ev t)) ops l ws Q t h e fs:=by
 subst hx
 unfold nI uF RG
 cases op<;>first|rfl|exact absurd rfl (hp _ _ _)
theorem Dv {o:BinOp} {tt z:Nat} {x y:Operand} : nH T Γ N F ⟨dst,.binOp o tt x y z,ty,pos,af,gd⟩ ops l ws Q t h e=uE T Γ N F (T8 (wM T tt o (ev t x) (ev t y))) dst ops l ws Q t h e:=dk (fun _ _ _ hh=>by cases hh) (by simp only[kT];first|rfl|(cases wM T tt o (ev t x) (ev t y)<;>rfl))
theorem DD {o:BinOp} {tt z:Nat} {x y:Operand} : nI T Γ N F ⟨dst,.binOp o tt x y z,ty,pos,af,gd⟩ ops l ws Q t h e fs=uF T Γ N F (T8 (wM T tt o (ev t x) (ev t y))) dst (bB ⟨dst,.binOp o tt x y z,ty,pos,af,gd⟩ (ev t)) ops l ws Q t h e fs:=dm (fun _ _ _ hh=>by cases hh) (by simp only[kT];first|rfl|(cases wM T tt o (ev t x) (ev t y)<;>rfl))
theorem Hp {o:UnOp} {tt:Nat} {x:Operand} : nH T Γ N F ⟨dst,.unOp o tt x,ty,pos,af,gd⟩ ops l ws Q t h e=uE T Γ N F (T8 (CT o (ev t x))) dst ops l ws Q t h e:=dk (fun _ _ _ hh=>by cases hh) (by simp only[kT];first|rfl|(cases CT o (ev t x)<;>rfl))
theorem Hv {o:UnOp} {tt:Nat} {x:Operand} : nI T Γ N F ⟨dst,.unOp o tt x,ty,pos,af,gd⟩ ops l ws Q t h e fs=uF T Γ N F (T8 (CT o (ev t x))) dst (bB ⟨dst,.unOp o tt x,ty,pos,af,gd⟩ (ev t)) ops l ws Q t h e fs:=dm (fun _ _ _ hh=>by cases hh) (by simp only[kT];first|rfl|(cases CT o (ev t x)<;>rfl))
theorem zX {x:Operand} : nH T Γ N F ⟨dst,.assign x,ty,pos,af,gd⟩ ops l ws Q t h e=uE T Γ N F (ov T Γ.own ty e dst h (ev t x)) dst ops l ws Q t h e:=dk (fun _ _ _ hh=>by cases hh) rfl
theorem z6 {x:Operand} : nI T Γ N F ⟨dst,.assign x,ty,pos,af,gd⟩ ops l ws Q t h e fs=uF T Γ N F (ov T Γ.own ty e dst h (ev t x)) dst (bB ⟨dst,.assign x,ty,pos,af,gd⟩ (ev t)) ops l ws Q t h e fs:=dm (fun _ _ _ hh=>by cases hh) rfl
theorem uX {f:Nat} {first caps:List Operand} : nH T Γ N F ⟨dst,.makeFunc (.func f) first.toArray caps.toArray,ty,pos,af,gd⟩ ops l ws Q t h e=uE T Γ N F (if (first.map (ev t)++caps.map (ev t)).all gP then some ⟨.clo f first.length (first.map (ev t)++caps.map (ev t)),[]⟩ else none) dst ops l ws Q t h e:=dk (fun _ _ _ hh=>by cases hh) rfl
theorem uZ {f:Nat} {first caps:List Operand} : nI T Γ N F ⟨dst,.makeFunc (.func f) first.toArray caps.toArray,ty,pos,af,gd⟩ ops l ws Q t h e fs=uF T Γ N F (if (first.map (ev t)++caps.map (ev t)).all gP then some ⟨.clo f first.length (first.map (ev t)++caps.map (ev t)),[]⟩ else none) dst (bB ⟨dst,.makeFunc (.func f) first.toArray caps.toArray,ty,pos,af,gd⟩ (ev t)) ops l ws Q t h e fs:=dm (fun _ _ _ hh=>by cases hh) rfl
theorem Hl {tt:Nat} {x:Operand} : nH T Γ N F ⟨dst,.load tt x,ty,pos,af,gd⟩ ops l ws Q t h e=uE T Γ N F (xg (T tt) fun τ=>lv τ h (ev t x)) dst ops l ws Q t h e:=dk (fun _ _ _ hh=>by cases hh) (by simp only[kT];first|rfl|(cases T tt<;>rfl))
theorem Hr {tt:Nat} {x:Operand} : nI T Γ N F ⟨dst,.load tt x,ty,pos,af,gd⟩ ops l ws Q t h e fs=uF T Γ N F (xg (T tt) fun τ=>lv τ h (ev t x)) dst (bB ⟨dst,.load tt x,ty,pos,af,gd⟩ (ev t)) ops l ws Q t h e fs:=dm (fun _ _ _ hh=>by cases hh) (by simp only[kT];first|rfl|(cases T tt<;>rfl))
theorem DB {tt:Nat} {x y:Operand} : nH T Γ N F ⟨dst,.store tt x y,ty,pos,af,gd⟩ ops l ws Q t h e=uE T Γ N F (xg (T tt) fun τ=>cD τ h (ev t x) (ev t y)) dst ops l ws Q t h e:=dk (fun _ _ _ hh=>by cases hh) (by simp only[kT];first|rfl|(cases T tt<;>rfl))
theorem DJ {tt:Nat} {x y:Operand} : nI T Γ N F ⟨dst,.store tt x y,ty,pos,af,gd⟩ ops l ws Q t h e fs=uF T Γ N F (xg (T tt) fun τ=>cD τ h (ev t x) (ev t y)) dst (bB ⟨dst,.store tt x y,ty,pos,af,gd⟩ (ev t)) ops l ws Q t h e fs:=dm (fun _ _ _ hh=>by cases hh) (by simp only[kT];first|rfl|(cases T tt<;>rfl))
theorem uY {x:Operand} : nH T Γ N F ⟨dst,.nilCheck x,ty,pos,af,gd⟩ ops l ws Q t h e=uE T Γ N F (gV h (ev t x)) dst ops l ws Q t h e:=dk (fun _ _ _ hh=>by cases hh) rfl
theorem u5 {x:Operand} : nI T Γ N F ⟨dst,.nilCheck x,ty,pos,af,gd⟩ ops l ws Q t h e fs=uF T Γ N F (gV h (ev t x)) dst (bB ⟨dst,.nilCheck x,ty,pos,af,gd⟩ (ev t)) ops l ws Q t h e fs:=dm (fun _ _ _ hh=>by cases hh) rfl
theorem tk {tt i:Nat} {x:Operand} : nH T Γ N F ⟨dst,.fieldAddr tt x i,ty,pos,af,gd⟩ ops l ws Q t h e=uE T Γ N F (xg (T tt) fun τ=>de T τ h i (ev t x)) dst ops l ws Q t h e:=dk (fun _ _ _ hh=>by cases hh) (by simp only[kT];first|rfl|(cases T tt<;>rfl))
theorem tr {tt i:Nat} {x:Operand} : nI T Γ N F ⟨dst,.fieldAddr tt x i,ty,pos,af,gd⟩ ops l ws Q t h e fs=uF T Γ N F (xg (T tt) fun τ=>de T τ h i (ev t x)) dst (bB ⟨dst,.fieldAddr tt x i,ty,pos,af,gd⟩ (ev t)) ops l ws Q t h e fs:=dm (fun _ _ _ hh=>by cases hh) (by simp only[kT];first|rfl|(cases T tt<;>rfl))
theorem Dx {tt i:Nat} {x:Operand} : nH T Γ N F ⟨dst,.field tt x i,ty,pos,af,gd⟩ ops l ws Q t h e=uE T Γ N F (xg (T tt) fun τ=>jT T τ i (ev t x)) dst ops l ws Q t h e:=dk (fun _ _ _ hh=>by cases hh) (by simp only[kT];first|rfl|(cases T tt<;>rfl))
theorem DF {tt i:Nat} {x:Operand} : nI T Γ N F ⟨dst,.field tt x i,ty,pos,af,gd⟩ ops l ws Q t h e fs=uF T Γ N F (xg (T tt) fun τ=>jT T τ i (ev t x)) dst (bB ⟨dst,.field tt x i,ty,pos,af,gd⟩ (ev t)) ops l ws Q t h e fs:=dm (fun _ _ _ hh=>by cases hh) (by simp only[kT];first|rfl|(cases T tt<;>rfl))
theorem tl {tt:Nat} {x i:Operand} : nH T Γ N F ⟨dst,.indexAddr tt x i,ty,pos,af,gd⟩ ops l ws Q t h e=uE T Γ N F (xg (T tt) fun τ=>bk T τ h (ev t x) (ev t i)) dst ops l ws Q t h e:=dk (fun _ _ _ hh=>by cases hh) (by simp only[kT];first|rfl|(cases T tt<;>rfl))
theorem tu {tt:Nat} {x i:Operand} : nI T Γ N F ⟨dst,.indexAddr tt x i,ty,pos,af,gd⟩ ops l ws Q t h e fs=uF T Γ N F (xg (T tt) fun τ=>bk T τ h (ev t x) (ev t i)) dst (bB ⟨dst,.indexAddr tt x i,ty,pos,af,gd⟩ (ev t)) ops l ws Q t h e fs:=dm (fun _ _ _ hh=>by cases hh) (by simp only[kT];first|rfl|(cases T tt<;>rfl))
theorem Dy {tt:Nat} {x i:Operand} : nH T Γ N F ⟨dst,.index tt x i,ty,pos,af,gd⟩ ops l ws Q t h e=uE T Γ N F (xg (T tt) fun τ=>eQ T τ (ev t x) (ev t i)) dst ops l ws Q t h e:=dk (fun _ _ _ hh=>by cases hh) (by simp only[kT];first|rfl|(cases T tt<;>rfl))
theorem DG {tt:Nat} {x i:Operand} : nI T Γ N F ⟨dst,.index tt x i,ty,pos,af,gd⟩ ops l ws Q t h e fs=uF T Γ N F (xg (T tt) fun τ=>eQ T τ (ev t x) (ev t i)) dst (bB ⟨dst,.index tt x i,ty,pos,af,gd⟩ (ev t)) ops l ws Q t h e fs:=dm (fun _ _ _ hh=>by cases hh) (by simp only[kT];first|rfl|(cases T tt<;>rfl))
theorem Dz {tt:Nat} {x:Operand} {lo hi mx:Option Operand} : nH T Γ N F ⟨dst,.slice tt x lo hi mx,ty,pos,af,gd⟩ ops l ws Q t h e=uE T Γ N F (xg (T tt) fun τ=>cj T τ h (ev t x) (lo.map (ev t)) (hi.map (ev t)) (mx.map (ev t))) dst ops l ws Q t h e:=dk (fun _ _ _ hh=>by cases hh) (by simp only[kT];first|rfl|(cases T tt<;>rfl))
theorem DH {tt:Nat} {x:Operand} {lo hi mx:Option Operand} : nI T Γ N F ⟨dst,.slice tt x lo hi mx,ty,pos,af,gd⟩ ops l ws Q t h e fs=uF T Γ N F (xg (T tt) fun τ=>cj T τ h (ev t x) (lo.map (ev t)) (hi.map (ev t)) (mx.map (ev t))) dst (bB ⟨dst,.slice tt x lo hi mx,ty,pos,af,gd⟩ (ev t)) ops l ws Q t h e fs:=dm (fun _ _ _ hh=>by cases hh) (by simp only[kT];first|rfl|(cases T tt<;>rfl))
theorem Dw {tt:Nat} {ps:List (Nat×Operand)} : nH T Γ N F ⟨dst,.build tt ps.toArray,ty,pos,af,gd⟩ ops l ws Q t h e=uE T Γ N F (xg (T tt) fun τ=>mT Γ.own T τ h dst (ps.map fun p=>(p.1,ev t p.2))) dst ops l ws Q t h e:=dk (fun _ _ _ hh=>by cases hh) (by simp only[kT];first|rfl|(cases T tt<;>rfl))
theorem DE {tt:Nat} {ps:List (Nat×Operand)} : nI T Γ N F ⟨dst,.build tt ps.toArray,ty,pos,af,gd⟩ ops l ws Q t h e fs=uF T Γ N F (xg (T tt) fun τ=>mT Γ.own T τ h dst (ps.map fun p=>(p.1,ev t p.2))) dst (bB ⟨dst,.build tt ps.toArray,ty,pos,af,gd⟩ (ev t)) ops l ws Q t h e fs:=dm (fun _ _ _ hh=>by cases hh) (by simp only[kT];first|rfl|(cases T tt<;>rfl))
theorem rj {tt len d:Nat} {ps:List (Nat×Operand)} : nH T Γ N F ⟨some d,.buildSlice tt len ps.toArray,ty,pos,af,gd⟩ ops l ws Q t h e=uE T Γ N F (xg (T tt) fun τ=>dc T τ h e d len (ps.map fun p=>(p.1,ev t p.2))) (some d) ops l ws Q t h e:=dk (fun _ _ _ hh=>by cases hh) (by simp only[kT];first|rfl|(cases T tt<;>rfl))
theorem rl {tt len d:Nat} {ps:List (Nat×Operand)} : nI T Γ N F ⟨some d,.buildSlice tt len ps.toArray,ty,pos,af,gd⟩ ops l ws Q t h e fs=uF T Γ N F (xg (T tt) fun τ=>dc T τ h e d len (ps.map fun p=>(p.1,ev t p.2))) (some d) (bB ⟨some d,.buildSlice tt len ps.toArray,ty,pos,af,gd⟩ (ev t)) ops l ws Q t h e fs:=dm (fun _ _ _ hh=>by cases hh) (by simp only[kT];first|rfl|(cases T tt<;>rfl))
theorem tn {tt d:Nat} {x y:Operand} : nH T Γ N F ⟨some d,.makeSlice tt x y,ty,pos,af,gd⟩ ops l ws Q t h e=uE T Γ N F (xg (T tt) fun τ=>nJ T τ e d (ev t x) (ev t y)) (some d) ops l ws Q t h e:=dk (fun _ _ _ hh=>by cases hh) (by simp only[kT];first|rfl|(cases T tt<;>rfl))
theorem tv {tt d:Nat} {x y:Operand} : nI T Γ N F ⟨some d,.makeSlice tt x y,ty,pos,af,gd⟩ ops l ws Q t h e fs=uF T Γ N F (xg (T tt) fun τ=>nJ T τ e d (ev t x) (ev t y)) (some d) (bB ⟨some d,.makeSlice tt x y,ty,pos,af,gd⟩ (ev t)) ops l ws Q t h e fs:=dm (fun _ _ _ hh=>by cases hh) (by simp only[kT];first|rfl|(cases T tt<;>rfl))
theorem Du {tt d:Nat} : nH T Γ N F ⟨some d,.alloc tt,ty,pos,af,gd⟩ ops l ws Q t h e=uE T Γ N F (zu (T tt) tt d e (Γ.hint d)) (some d) ops l ws Q t h e:=dk (fun _ _ _ hh=>by cases hh) (by simp only[kT];cases T tt with|none=>rfl|some τ=>(dsimp only[zu];cases Γ.hint d<;>rfl))
theorem DC {tt d:Nat} : nI T Γ N F ⟨some d,.alloc tt,ty,pos,af,gd⟩ ops l ws Q t h e fs=uF T Γ N F (zu (T tt) tt d e (Γ.hint d)) (some d) (bB ⟨some d,.alloc tt,ty,pos,af,gd⟩ (ev t)) ops l ws Q t h e fs:=dm (fun _ _ _ hh=>by cases hh) (by simp only[kT];cases T tt with|none=>rfl|some τ=>(dsimp only[zu];cases Γ.hint d<;>rfl))
theorem xG {tt d:Nat} : nH T Γ N F ⟨some d,.makeMap tt none,ty,pos,af,gd⟩ ops l ws Q t h e=uE T Γ N F (UX T (T tt) tt e d) (some d) ops l ws Q t h e:=dk (fun _ _ _ hh=>by cases hh) (by simp only[kT];first|rfl|(cases T tt<;>rfl))
theorem xK {tt d:Nat} : nI T Γ N F ⟨some d,.makeMap tt none,ty,pos,af,gd⟩ ops l ws Q t h e fs=uF T Γ N F (UX T (T tt) tt e d) (some d) (bB ⟨some d,.makeMap tt none,ty,pos,af,gd⟩ (ev t)) ops l ws Q t h e fs:=dm (fun _ _ _ hh=>by cases hh) (by simp only[kT];first|rfl|(cases T tt<;>rfl))
theorem zZ {tt:Nat} {m i:Operand} {ok:Bool} : nH T Γ N F ⟨dst,.lookup tt m i ok,ty,pos,af,gd⟩ ops l ws Q t h e=uE T Γ N F (xg (T tt) fun τ=>gC T τ h (ev t m) (ev t i) ok) dst ops l ws Q t h e:=dk (fun _ _ _ hh=>by cases hh) (by simp only[kT];first|rfl|(cases T tt<;>rfl))
theorem z8 {tt:Nat} {m i:Operand} {ok:Bool} : nI T Γ N F ⟨dst,.lookup tt m i ok,ty,pos,af,gd⟩ ops l ws Q t h e fs=uF T Γ N F (xg (T tt) fun τ=>gC T τ h (ev t m) (ev t i) ok) dst (bB ⟨dst,.lookup tt m i ok,ty,pos,af,gd⟩ (ev t)) ops l ws Q t h e fs:=dm (fun _ _ _ hh=>by cases hh) (by simp only[kT];first|rfl|(cases T tt<;>rfl))
theorem tq {tt:Nat} {m i x:Operand} : nH T Γ N F ⟨dst,.mapUpdate tt m i x,ty,pos,af,gd⟩ ops l ws Q t h e=uE T Γ N F (xg (T tt) fun τ=>cX T τ h (ev t m) (ev t i) (ev t x)) dst ops l ws Q t h e:=dk (fun _ _ _ hh=>by cases hh) (by simp only[kT];first|rfl|(cases T tt<;>rfl))
theorem tw {tt:Nat} {m i x:Operand} : nI T Γ N F ⟨dst,.mapUpdate tt m i x,ty,pos,af,gd⟩ ops l ws Q t h e fs=uF T Γ N F (xg (T tt) fun τ=>cX T τ h (ev t m) (ev t i) (ev t x)) dst (bB ⟨dst,.mapUpdate tt m i x,ty,pos,af,gd⟩ (ev t)) ops l ws Q t h e fs:=dm (fun _ _ _ hh=>by cases hh) (by simp only[kT];first|rfl|(cases T tt<;>rfl))
theorem zY {tt:Nat} {m i x:Operand} : nH T Γ N F ⟨dst,.insert tt m i x,ty,pos,af,gd⟩ ops l ws Q t h e=uE T Γ N F (xg (T tt) fun τ=>cX T τ h (ev t m) (ev t i) (ev t x)) dst ops l ws Q t h e:=dk (fun _ _ _ hh=>by cases hh) (by simp only[kT];first|rfl|(cases T tt<;>rfl))
theorem z7 {tt:Nat} {m i x:Operand} : nI T Γ N F ⟨dst,.insert tt m i x,ty,pos,af,gd⟩ ops l ws Q t h e fs=uF T Γ N F (xg (T tt) fun τ=>cX T τ h (ev t m) (ev t i) (ev t x)) dst (bB ⟨dst,.insert tt m i x,ty,pos,af,gd⟩ (ev t)) ops l ws Q t h e fs:=dm (fun _ _ _ hh=>by cases hh) (by simp only[kT];first|rfl|(cases T tt<;>rfl))
theorem Me {tt d:Nat} {x:Operand} : nH T Γ N F ⟨some d,.box tt x,ty,pos,af,gd⟩ ops l ws Q t h e=uE T Γ N F (TP (dz h (ev t x)) h tt d e) (some d) ops l ws Q t h e:=dk (fun _ _ _ hh=>by cases hh) (by simp only[kT];first|rfl|(cases dz h (ev t x)<;>rfl))
theorem Mf {tt d:Nat} {x:Operand} : nI T Γ N F ⟨some d,.box tt x,ty,pos,af,gd⟩ ops l ws Q t h e fs=uF T Γ N F (TP (dz h (ev t x)) h tt d e) (some d) (bB ⟨some d,.box tt x,ty,pos,af,gd⟩ (ev t)) ops l ws Q t h e fs:=dm (fun _ _ _ hh=>by cases hh) (by simp only[kT];first|rfl|(cases dz h (ev t x)<;>rfl))
theorem xE {a b:Nat} {x:Operand} : nH T Γ N F ⟨dst,.convert a b x,ty,pos,af,gd⟩ ops l ws Q t h e=uE T Γ N F (Pd (T b) (T a) (ev t x)) dst ops l ws Q t h e:=dk (fun _ _ _ hh=>by cases hh) rfl
theorem xI {a b:Nat} {x:Operand} : nI T Γ N F ⟨dst,.convert a b x,ty,pos,af,gd⟩ ops l ws Q t h e fs=uF T Γ N F (Pd (T b) (T a) (ev t x)) dst (bB ⟨dst,.convert a b x,ty,pos,af,gd⟩ (ev t)) ops l ws Q t h e fs:=dm (fun _ _ _ hh=>by cases hh) rfl
theorem xF {x:Nat} {i:Nat} : nH T Γ N F ⟨dst,.extract (.tmp x) i,ty,pos,af,gd⟩ ops l ws Q t h e=uE T Γ N F (Sg (t x) i) dst ops l ws Q t h e:=dk (fun _ _ _ hh=>by cases hh) rfl
theorem xJ {x:Nat} {i:Nat} : nI T Γ N F ⟨dst,.extract (.tmp x) i,ty,pos,af,gd⟩ ops l ws Q t h e fs=uF T Γ N F (Sg (t x) i) dst (bB ⟨dst,.extract (.tmp x) i,ty,pos,af,gd⟩ (ev t)) ops l ws Q t h e fs:=dm (fun _ _ _ hh=>by cases hh) rfl
theorem Hk {x:Operand} {WH:List Operand} {tys:Array Nat} : nH T Γ N F ⟨dst,.call ⟨.value x,WH.toArray,tys⟩,ty,pos,af,gd⟩ ops l ws Q t h e=uE T Γ N F (fB Γ h e dst (ev t x) (WH.map (ev t))) dst ops l ws Q t h e:=dk (fun _ _ _ hh=>by cases hh) rfl
theorem Hq {x:Operand} {WH:List Operand} {tys:Array Nat} : nI T Γ N F ⟨dst,.call ⟨.value x,WH.toArray,tys⟩,ty,pos,af,gd⟩ ops l ws Q t h e fs=uF T Γ N F (fB Γ h e dst (ev t x) (WH.map (ev t))) dst (bB ⟨dst,.call ⟨.value x,WH.toArray,tys⟩,ty,pos,af,gd⟩ (ev t)) ops l ws Q t h e fs:=dm (fun _ _ _ hh=>by cases hh) rfl
theorem xD {x:Builtin} {WH:List Operand} {tys:List Nat} : nH T Γ N F ⟨dst,.call ⟨.builtin x,WH.toArray,tys.toArray⟩,ty,pos,af,gd⟩ ops l ws Q t h e=uE T Γ N F (b7 T h e dst x tys (WH.map (ev t))) dst ops l ws Q t h e:=dk (fun _ _ _ hh=>by cases hh) rfl
theorem xH {x:Builtin} {WH:List Operand} {tys:List Nat} : nI T Γ N F ⟨dst,.call ⟨.builtin x,WH.toArray,tys.toArray⟩,ty,pos,af,gd⟩ ops l ws Q t h e fs=uF T Γ N F (b7 T h e dst x tys (WH.map (ev t))) dst (bB ⟨dst,.call ⟨.builtin x,WH.toArray,tys.toArray⟩,ty,pos,af,gd⟩ (ev t)) ops l ws Q t h e fs:=dm (fun _ _ _ hh=>by cases hh) rfl
theorem b6 {o:Array Oper} {A:Prop} (h1:Aj o fs=true) (h2:A):Aj o fs=true∧A:=⟨h1,h2⟩
theorem aj {b:Bool} {g:Nat} {x y:Code} (h1:b=true→cF T Γ N F (.code x::ws) Q .normal (dx t g (.bool true)) h e) (h2:b=false→cF T Γ N F (.code y::ws) Q .normal (dx t g (.bool false)) h e):Gs T Γ N F (.bool b) g x y ws Q t h e:=by rw[Oh];exact⟨h1,h2⟩
theorem bm {b:Bool} {g:Nat} {o:Oper} (h1:b=true→nH T Γ N F o ops l ws Q (dx t g (.bool true)) h e) (h2:b=false→kb T Γ N F ops l ws Q (dP (dx t g (.bool false)) o.dst .skp) h e):ti T Γ N F (.bool b) g true o ops l ws Q t h e:=by rw[Oi];exact⟨h1,h2⟩
theorem aP {b:Bool} {g:Nat} {o:Oper} (h1:b=true→kb T Γ N F ops l ws Q (dP (dx t g (.bool true)) o.dst .skp) h e) (h2:b=false→nH T Γ N F o ops l ws Q (dx t g (.bool false)) h e):ti T Γ N F (.bool b) g false o ops l ws Q t h e:=by rw[Li];exact⟨h1,h2⟩
theorem wc {b:Bool} {g:Nat} {o:Oper} (h1:b=true→nI T Γ N F o ops l ws Q (dx t g (.bool true)) h e fs) (h2:b=false→kc T Γ N F ops l ws Q (dP (dx t g (.bool false)) o.dst .skp) h e (fs++[⟨[],true⟩])):tj T Γ N F (.bool b) g true o ops l ws Q t h e fs:=by rw[Oj];exact⟨h1,h2⟩
theorem JM {b:Bool} {g:Nat} {o:Oper} (h1:b=true→kc T Γ N F ops l ws Q (dP (dx t g (.bool true)) o.dst .skp) h e (fs++[⟨[],true⟩])) (h2:b=false→nI T Γ N F o ops l ws Q (dx t g (.bool false)) h e fs):tj T Γ N F (.bool b) g false o ops l ws Q t h e fs:=by rw[Lj];exact⟨h1,h2⟩
def Sf (mode:Mode) (T:Nat→Option Ty) (lent:Option (D×Row)) (rs:List ResultVar) (r:RK×Option Row):Kt:=fun x t h e=>TV mode T lent rs x t h e r
theorem xU {mode:Mode} {lent:Option (D×Row)} {rs:List ResultVar} {r:RK×Option Row} : Sf mode T lent rs r .normal t h e=(fw mode T lent rs ⟨t,h,e⟩=some r):=Eq.trans rfl rfl
theorem cr {mode:Mode} {lent:Option (D×Row)} {rs:List ResultVar} {r:RK×Option Row} : Sf mode T lent rs r .ret t h e=(fw mode T lent rs ⟨t,h,e⟩=some r):=Eq.trans rfl rfl
theorem aw {mode:Mode} {fn:Func} {c:Code} {n:Nat} {rs:List ResultVar} {args:List D} {r:RK×Option Row} (hb:fn.body=some c) (hn:fn.ntmps=n) (hr:fn.results=rs.toArray) (hw:cF T Γ n F [.code c] (Sf mode T none rs r) .normal (J7 args) Tt 0) (hpk:n≤1000000:=by exact Nat.le_of_ble_eq_true rfl):aQ mode T Γ F fn none args=some r:=by
 refine RN ?_ (by rw[hn];exact hpk)
 unfold Wi
 rw[hb,hn,hr]
 exact hw
def U3 (r:Row) (i:Nat):Option Row:=if i=0 then some r else none
theorem Jn (r:Row) (i:Nat):U3 r i=if i=0 then some r else none:=Eq.trans rfl rfl
theorem nw {mode:Mode} {fn:Func} {c:Code} {n:Nat} {rs:List ResultVar} {d0:D} {ty:Nat} {cells:List D} {fz lst:Bool} {args:List D} {r:RK×Option Row} (hb:fn.body=some c) (hn:fn.ntmps=n) (hr:fn.results=rs.toArray)
  (hw:cF T Γ n F [.code c] (Sf mode T (some (d0,⟨0,ty,cells,fz,lst,false⟩)) rs r) .normal (J7 (d0::args)) (U3 ⟨0,ty,cells,fz,lst,false⟩) 1) (hpk:n≤1000000:=by exact Nat.le_of_ble_eq_true rfl):aQ mode T Γ F fn (some (d0,⟨0,ty,cells,fz,lst,false⟩)) args=some r:=by
 refine RN ?_ (by rw[hn];exact hpk)
 unfold Wi
 rw[hb,hn,hr]
 exact hw
end
end Go.Proofs.YtpkahnkoecbndaaGreatDoor.Am
namespace Go.Proofs.YtpkahnkoecbndaaGreatDoor.P
open Go.RowKit
set_option linter.unusedSimpArgs false
set_option linter.unusedVariables false
def FU:Nat:=1000000000000000000000000
def lx {σ ρ:Type} (body:σ→Option (σ⊕ρ)):Nat→σ→Option ρ
 | 0,_=>none
 | n+1,s =>
  match body s with
  | some (.inl s')=>lx body n s'
  | some (.inr r)=>some r
  | none=>none
def aJ {σ ρ:Type} (body:σ→Option (σ⊕ρ)) (s:σ):Option ρ:=lx body FU s
theorem PY {σ ρ:Type} {body:σ→Option (σ⊕ρ)} (I:σ→Prop) (μ:σ→Nat) (Q:ρ→Prop)
  (hstep:∀s,I s→(∃s',body s=some (.inl s')∧I s'∧μ s'<μ s)∨(∃r,body s=some (.inr r)∧Q r)):∀(n:Nat) (s:σ),I s→μ s<n→∃r,lx body n s=some r∧Q r:=by
 intro n
 induction n with
 | zero=>intro s _ h;omega
 | succ n ih =>
  intro s hI hμ
  rcases hstep s hI with⟨s',h1,h2,h3⟩|⟨r,h1,h2⟩
  ·obtain⟨r,h4,h5⟩:=ih s' h2 (by omega)
   exact⟨r,by simp only[lx,h1];exact h4,h5⟩
  ·exact⟨r,by simp only[lx,h1],h2⟩
theorem oK {σ ρ:Type} {body:σ→Option (σ⊕ρ)} (I:σ→Prop) (μ:σ→Nat) (Q:ρ→Prop) {s:σ} (hI:I s) (hμ:μ s<FU)
  (hstep:∀s,I s→(∃s',body s=some (.inl s')∧I s'∧μ s'<μ s)∨(∃r,body s=some (.inr r)∧Q r)):∃r,aJ body s=some r∧Q r:=PY I μ Q hstep FU s hI hμ
def idx {α:Type} (l:List α) (i:Int):Option α:=if 0≤i∧i<l.length then l[i.toNat]? else none
def SF (s:ByteArray) (i:Int):Option Int:=if 0≤i then (s[i.toNat]?).map fun b=>(b.toNat:Int) else none
def yY {α:Type} (l:List α) (a b:Int):Option (List α):=if 0≤a∧a≤b∧b≤l.length then some ((l.drop a.toNat).take (b.toNat-a.toNat)) else none
def IU {α:Type} (bytes:Nat) (n c:Int) (z:α):Option (List α):=if 0≤n∧n≤c∧c≤maxLen∧c.toNat*bytes≤140737488355328 then some (List.replicate n.toNat z) else none
def eY {α:Type} (bytes:Nat) (l m:List α):Option (List α):=if l.length+m.length≤maxLen∧(l.length+m.length)*bytes≤140737488355328 then some (l++m) else none
def E8 (a b:ByteArray):Option ByteArray:=if ((a.size+b.size:Nat):Int)>IntKind.i64.max then none else some (a++b)
def zW (k:IntKind) (x y:Int):Option Int:=if y=0 then none else some (k.wrap (x.tdiv y))
def vD (_:IntKind) (x y:Int):Option Int:=if y=0 then none else some (x.tmod y)
def CS (k:IntKind) (x y:Int):Option Int:=if y<0 then none else some (k.wrap (x*2 ^ (min y.toNat k.bits)))
def BU (k:IntKind) (x y:Int):Option Int:=if y<0 then none else some (x.fdiv (2 ^ (min y.toNat k.bits)))
def ot (op:BinOp) (k:IntKind) (x y:Int):Int :=
 let a:=BitVec.ofInt k.bits x
 let b:=BitVec.ofInt k.bits y
 match op with
 | .and=>k.wrap (a &&& b).toNat
 | .or=>k.wrap (a ||| b).toNat
 | .xor=>k.wrap (a ^^^ b).toNat
 | _=>k.wrap (a &&& ~~~b).toNat
def Sj {α:Type} : List (Int×α)→Int→Bool
 | [],_=>false
 | (k,_)::m,n=>k==n||Sj m n
def fl (l:List Int):List Int:=l.mergeSort fun x y=>decide (x≤y)
theorem eL (l:List Int):(fl l).length=l.length:=List.length_mergeSort l
theorem xp:fl []=[]:=by simp[fl]
theorem ae {α β:Type} {o:Option α} {f:α→Option β} {r:β} (h:o.bind f=some r):∃a,o=some a∧f a=some r:=by
 cases o with
 | none=>cases h
 | some a=>exact⟨a,rfl,h⟩
theorem UN {α:Type} {b:Bool} {x y r:α} (hb:b=true) (h:(if b=true then x else y)=r):x=r:=by rw[if_pos hb]at h;exact h
theorem UM {α:Type} {b:Bool} {x y r:α} (hb:b=false) (h:(if b=true then x else y)=r):y=r:=by rw[hb]at h;simpa using h
theorem ai {a b:Prop} (x:a) (y:b):a∧b:=⟨x,y⟩
theorem sp {α:Type} {b:Bool} {P1 P2 Q:Prop} {x y r:α} (k:(b=true→P1)→(b=false→P2)→Q) (h:(if b=true then x else y)=r) (h1:b=true→x=r→P1) (h2:b=false→y=r→P2):Q:=k (fun hb=>h1 hb (UN hb h)) fun hb=>h2 hb (UM hb h)
end Go.Proofs.YtpkahnkoecbndaaGreatDoor.P
namespace Go.Proofs.YtpkahnkoecbndaaGreatDoor.Am
open Go.RowKit Go.Proofs.YtpkahnkoecbndaaGreatDoor.P
set_option linter.unusedSimpArgs false
set_option linter.unusedVariables false
structure kj (α:Type) where
 cells:α→List D
 size:Nat
 len:∀x,(cells x).length=size
 pos:0<size
 inj:∀x y,cells x=cells y→x=y
def ab {α:Type} (e:kj α):List α→List D
 | []=>[]
 | x::l=>e.cells x++ab e l
section
variable {α β:Type} (e:kj α)
theorem vf:ab e []=[]:=rfl
theorem aF (x:α) (l:List α):ab e (x::l)=e.cells x++ab e l:=rfl
theorem fc:∀l m:List α,ab e (l++m)=ab e l++ab e m
 | [],m=>rfl
 | x::l,m=>by rw[List.cons_append,aF,aF,fc l m,List.append_assoc]
theorem cq:∀l:List α,(ab e l).length=l.length*e.size
 | []=>by simp[ab]
 | x::l=>by rw[aF,List.length_append,cq l,e.len,List.length_cons,Nat.succ_mul];omega
theorem sq:∀(l:List α) (i:Nat),(ab e l).drop (i*e.size)=ab e (l.drop i)
 | l,0=>by simp
 | [],i+1=>by simp[ab]
 | x::l,i+1=>by
  rw[aF,List.drop_succ_cons,← sq l i,List.drop_append,e.len,List.drop_eq_nil_of_le (by rw[e.len,Nat.succ_mul];omega),List.nil_append]
  congr 1
  rw[Nat.succ_mul];omega
theorem eK:∀(l:List α) (i:Nat),(ab e l).take (i*e.size)=ab e (l.take i)
 | l,0=>by simp[ab]
 | [],i+1=>by simp[ab]
 | x::l,i+1=>by
  rw[aF,List.take_succ_cons,aF,List.take_append,e.len,List.take_of_length_le (by rw[e.len,Nat.succ_mul];omega),← eK l i]
  congr 2
  rw[Nat.succ_mul];omega
theorem rA:∀l m:List α,ab e l=ab e m→l=m
 | [],[],_=>rfl
 | [],y::m,h=>by
  have:=congrArg List.length h
  have hp:=e.pos
  rw[aF,List.length_append,e.len]at this
  simp[ab]at this
  omega
 | x::l,[],h=>by
  have:=congrArg List.length h
  have hp:=e.pos
  rw[aF,List.length_append,e.len]at this
  simp[ab]at this
  omega
 | x::l,y::m,h=>by
  rw[aF,aF]at h
  obtain⟨h1,h2⟩:=List.append_inj h (by rw[e.len,e.len])
  rw[e.inj _ _ h1,rA l m h2]
theorem Av:∀(n:Nat) (x:α),nq n (e.cells x)=ab e (List.replicate n x)
 | 0,x=>by simp[nq,ab]
 | n+1,x=>by rw[List.replicate_succ,aF,← Av n x];simp[nq,List.replicate_succ]
end
def eI (k:IntKind):kj Int:=⟨fun n=>[.int k n],1,fun _=>rfl,by decide,fun x y h=>by simpa using h⟩
def xN:kj Bool:=⟨fun n=>[.bool n],1,fun _=>rfl,by decide,fun x y h=>by simpa using h⟩
def nA:kj ByteArray:=⟨fun n=>[.str n],1,fun _=>rfl,by decide,fun x y h=>by simpa using h⟩
def jv {α:Type} (e:kj α):kj (List α):=⟨fun l=>[.sl false false l.length (ab e l)],1,fun _=>rfl,by decide,fun x y h=>by
 simp only[List.cons.injEq,D.sl.injEq,true_and,and_true]at h
 exact rA e _ _ h.2⟩
def kp {α β:Type} (e:kj α) (f:kj β):kj (α×β):=⟨fun x=>e.cells x.1++f.cells x.2,e.size+f.size,fun x=>by rw[List.length_append,e.len,f.len],Nat.lt_of_lt_of_le e.pos (Nat.le_add_right _ _),fun x y h=>by
 obtain⟨h1,h2⟩:=List.append_inj h (by rw[e.len,e.len])
 exact Prod.ext (e.inj _ _ h1) (f.inj _ _ h2)⟩
def Ao {α β:Type} (e:kj β) (f:α→β) (hf:∀x y,f x=f y→x=y):kj α:=⟨fun x=>e.cells (f x),e.size,fun x=>e.len _,e.pos,fun x y h=>hf _ _ (e.inj _ _ h)⟩
structure Arg (α:Type) where
 d:α→D
 inj:∀x y,d x=d y→x=y
def aI (k:IntKind):Arg Int:=⟨fun n =>.int k n,fun x y h=>by simpa using h⟩
def UA:Arg Bool:=⟨fun n =>.bool n,fun x y h=>by simpa using h⟩
def RW:Arg ByteArray:=⟨fun n =>.str n,fun x y h=>by simpa using h⟩
def gg {α:Type} (e:kj α):Arg (List α):=⟨fun l =>.sl false false l.length (ab e l),fun x y h=>by
 simp only[D.sl.injEq,true_and]at h
 exact rA e _ _ h.2⟩
def dU {α:Type} (e:kj α):Arg α:=⟨fun x =>.agg (e.cells x),fun x y h=>e.inj _ _ (by simpa using h)⟩
theorem VV (k:IntKind) (n:Int):(aI k).d n=.int k n:=Eq.trans rfl rfl
theorem TI {α:Type} (e:kj α) (x:α):(dU e).d x=.agg (e.cells x):=Eq.trans rfl rfl
theorem u7 (k:IntKind) (n:Int):(eI k).cells n=[.int k n]:=Eq.trans rfl rfl
theorem xO (n:Bool):xN.cells n=[.bool n]:=Eq.trans rfl rfl
theorem Al (n:ByteArray):nA.cells n=[.str n]:=Eq.trans rfl rfl
theorem wR {α:Type} (e:kj α) (l:List α):(jv e).cells l=[.sl false false l.length (ab e l)]:=Eq.trans rfl rfl
structure lO (α:Type) where
 ds:α→List D
 inj:∀x y,ds x=ds y→x=y
def RQ:lO Unit:=⟨fun _=>[],fun _ _ _=>rfl⟩
def dJ {α:Type} (a:Arg α):lO α:=⟨fun x=>[a.d x],fun x y h=>a.inj _ _ (by simpa using h)⟩
def dX {α β:Type} (a:Arg α) (b:lO β):lO (α×β):=⟨fun x=>a.d x.1::b.ds x.2,fun x y h=>by
 simp only[List.cons.injEq]at h
 exact Prod.ext (a.inj _ _ h.1) (b.inj _ _ h.2)⟩
noncomputable def ez {α β:Type} (A:lO α) (F:α→Option β) (R:β→RK):Option (D×Row)→List D→Option (RK×Option Row):=fun lent ds =>
 match lent with
 | none=>open Classical in if h:∃a,A.ds a=ds then (F (Classical.choose h)).map fun r=>(R r,none) else none
 | some _=>none
theorem aE {α β:Type} (A:lO α) (F:α→Option β) (R:β→RK) (a:α):ez A F R none (A.ds a)=(F a).map fun r=>(R r,none):=by
 have h:∃b,A.ds b=A.ds a:=⟨a,rfl⟩
 simp only[ez]
 rw[dif_pos h,A.inj _ _ (Classical.choose_spec h)]
theorem oL {α β:Type} {A:lO α} {F:α→Option β} {R:β→RK} {lent:Option (D×Row)} {ds:List D} {rk:RK} {out:Option Row} (h:ez A F R lent ds=some (rk,out)):lent=none∧out=none∧∃a r,ds=A.ds a∧F a=some r∧rk=R r:=by
 unfold ez at h
 split at h
 ·split at h
  ·rename_i he
   rw[Option.map_eq_some_iff]at h
   obtain⟨r,h1,h2⟩:=h
   simp only[Prod.mk.injEq]at h2
   obtain⟨rfl,rfl⟩:=h2
   exact⟨rfl,rfl,_,r,(Classical.choose_spec he).symm,h1,rfl⟩
  ·cases h
 ·cases h
structure bI (P:Program) (f:FuncId) (G:Option (D×Row)→List D→Option (RK×Option Row)):Prop where
 calls:∀lent WH rk out,G lent WH=some (rk,out)→oe P f lent WH rk out
 callable:gw P f
theorem bI.of {P:Program} {T:Nat→Option Ty} {Γ:Env} (hT:km P T) (hΓ:bM P Γ) (hm:P.follows .mixedOrders=true) {α β:Type} {A:lO α} {F:α→Option β} {R:β→RK} {mode:Mode} {f:FuncId} {fn:Func} (hf:P.funcs[f]? = some fn) (hok:(match fn.body with|some c=>codeOk c|none=>true)=true)
  (hc:(fn.name == "runtime.NumGoroutine")=false∧fn.body.isNone=false) (hn:∀a,(A.ds a).length≤fn.ntmps) (h:∀a r,F a=some r→aQ mode T Γ FU fn none (A.ds a)=some (R r,none)):bI P f (ez A F R) where
 calls lent WH rk out hg:=by
  obtain⟨rfl,rfl,a,r,rfl,hr,rfl⟩:=oL hg
  exact jD hT hΓ hm hf hok (hn a) rfl (h a r hr)
 callable:=⟨fn,hf,hc⟩
theorem bM.add {P:Program} {Γ:Env} (hΓ:bM P Γ) {f:Nat} {G:Option (D×Row)→List D→Option (RK×Option Row)} (h:bI P f G) (l:Bool):bM P (Am.ext Γ f l G):=hΓ.ext h.calls h.callable
section
variable {T:Nat→Option Ty} {Γ:Env} {N e:Nat} {ws:List W} {Q:Kt} {t:Nat→D} {h:Nat→Option Row}
def LK {σ ρ:Type} (Rel:σ→(Nat→D)→(Nat→Option Row)→Nat→Prop) (RelX:ρ→Ex→(Nat→D)→(Nat→Option Row)→Nat→Prop) (c:σ⊕ρ):Kt:=fun x t h e =>
 match x with
 | .normal=>∃s',c=.inl s'∧Rel s' t h e
 | x=>∃o,c=.inr o∧RelX o x t h e
theorem jg {σ ρ:Type} {Rel:σ→(Nat→D)→(Nat→Option Row)→Nat→Prop} {RelX:ρ→Ex→(Nat→D)→(Nat→Option Row)→Nat→Prop} {s':σ} (k:Rel s' t h e):LK Rel RelX (.inl s') .normal t h e:=⟨s',rfl,k⟩
theorem kl {σ ρ:Type} {Rel:σ→(Nat→D)→(Nat→Option Row)→Nat→Prop} {RelX:ρ→Ex→(Nat→D)→(Nat→Option Row)→Nat→Prop} {o:ρ} {n:Nat} (k:RelX o (.exit n) t h e):LK Rel RelX (.inr o) (.exit n) t h e:=⟨o,rfl,k⟩
theorem wq {σ ρ:Type} {Rel:σ→(Nat→D)→(Nat→Option Row)→Nat→Prop} {RelX:ρ→Ex→(Nat→D)→(Nat→Option Row)→Nat→Prop} {o:ρ} (k:RelX o .ret t h e):LK Rel RelX (.inr o) .ret t h e:=⟨o,rfl,k⟩
theorem ax {σ ρ:Type} {body:σ→Option (σ⊕ρ)} {b:Code} (Rel:σ→(Nat→D)→(Nat→Option Row)→Nat→Prop) (RelX:ρ→Ex→(Nat→D)→(Nat→Option Row)→Nat→Prop) {s0:σ} {out:ρ} (hL:aJ body s0=some out) (h0:Rel s0 t h e)
  (hstep:∀s t h e,Rel s t h e→∀c,body s=some c→cF T Γ N FU [.code b] (LK Rel RelX c) .normal t h e)
  (hexit:∀x t h e,RelX out x t h e→cF T Γ N FU ws Q x t h e):MI T Γ N FU b ws Q t h e:=by
 have key:∀(n:Nat) (s:σ) (t:Nat→D) (h:Nat→Option Row) (e:Nat),Rel s t h e→lx body n s=some out→∃x s',iter (fV T Γ N FU b) n ⟨t,h,e⟩=some (x,s')∧cF T Γ N FU ws Q x s'.t s'.h s'.e:=by
  intro n
  induction n with
  | zero=>intro s t h e _ hi;cases hi
  | succ n ih =>
   intro s t h e hR hi
   simp only[lx]at hi
   cases hb:body s with
   | none=>rw[hb]at hi;cases hi
   | some c =>
    rw[hb]at hi
    obtain⟨x,s1,h1,h2⟩:=RM _ _ _ _ _ (show JY T Γ N FU b t h e (LK Rel RelX c) from hstep s t h e hR c hb)
    simp only[iter,h1]
    cases x with
    | normal =>
     obtain⟨s',rfl,h4⟩:=h2
     exact ih s' s1.t s1.h s1.e h4 hi
    | exit m =>
     obtain⟨o,rfl,h4⟩:=h2
     simp only[Option.some.injEq]at hi
     subst hi
     exact⟨_,_,rfl,hexit _ _ _ _ h4⟩
    | ret =>
     obtain⟨o,rfl,h4⟩:=h2
     simp only[Option.some.injEq]at hi
     subst hi
     exact⟨_,_,rfl,hexit _ _ _ _ h4⟩
 exact key FU s0 t h e h0 hL
theorem wg {d:D} {g:Nat} {A B A' B':(Nat→D)→Prop} (hk:Lr d t g A B) (h1:∀t,A t→A' t) (h2:∀t,B t→B' t):Lr d t g A' B':=by
 cases d with
 | bool b=>exact⟨fun hb=>h1 _ (hk.1 hb),fun hb=>h2 _ (hk.2 hb)⟩
 | _=>exact hk
theorem B9 {d:D} {g:Nat} {A B S A' B' S':(Nat→D)→Prop} (hk:wpS d t g A B S) (h1:∀t,A t→A' t) (h2:∀t,B t→B' t) (h3:∀t,S t→S' t):wpS d t g A' B' S':=by
 unfold wpS at hk ⊢
 split at hk
 ·exact h3 _ hk
 ·exact wg hk h1 h2
theorem Be {α:Type} {x:Option α} {K K':α→Prop} (hk:rN x K) (h1:∀a,K a→K' a):rN x K':=by
 cases x with
 | none=>exact hk
 | some a=>exact h1 a hk
theorem JV {ops:List Oper} {gd:Option (Nat×Bool)} {A B A' B':(Nat→D)→Prop} (hk:RI ops t gd A B) (h1:∀t,A t→A' t) (h2:∀t,B t→B' t):RI ops t gd A' B':=by
 unfold RI at hk ⊢
 split
 ·exact h1 _ hk
 ·rename_i j want
  refine Be hk fun g hg=>B9 hg ?_ ?_ h2
  ·intro t ht;cases want<;>simp_all
  ·intro t ht;cases want<;>simp_all
theorem wk {o:Oper} {K K':(Nat→D)→dj→Prop} (hk:RG T Γ e o t h K) (h1:∀t E,K t E→K' t E):RG T Γ e o t h K':=by
 unfold RG at hk ⊢
 split
 ·rename_i ho
  rw[ho]at hk
  exact wg hk (fun _ h=>h1 _ _ h) (fun _ h=>h1 _ _ h)
 ·rename_i hne
  split at hk
  ·rename_i c a b ho;exact absurd ho (hne _ _ _)
  ·exact Be hk (fun _ h=>h1 _ _ h)
theorem sV {ops:List Oper} {K K':(Nat→D)→(Nat→Option Row)→Prop} (h1:∀t h,K t h→K' t h):∀(l:List Oper) (t:Nat→D) (h:Nat→Option Row),BO T Γ N e ops l t h K→BO T Γ N e ops l t h K'
 | [],t,h,hk=>h1 _ _ hk
 | o::l,t,h,hk=>by
  unfold BO at hk ⊢
  exact⟨hk.1,JV hk.2 (fun t ht=>wk ht fun t E hE=>sV h1 l _ _ hE) (fun t ht=>sV h1 l _ _ ht)⟩
theorem sS {ops:List Oper} {K K':(Nat→D)→(Nat→Option Row)→List jH→Prop} (h1:∀t h fs,K t h fs→K' t h fs):∀(l:List Oper) (t:Nat→D) (h:Nat→Option Row) (fs:List jH),runK T Γ N e ops l t h fs K→runK T Γ N e ops l t h fs K'
 | [],t,h,fs,hk=>h1 _ _ _ hk
 | o::l,t,h,fs,hk=>by
  unfold runK at hk ⊢
  exact⟨hk.1,JV hk.2 (fun t ht=>wk ht fun t E hE=>sS h1 l _ _ _ hE) (fun t ht=>sS h1 l _ _ _ ht)⟩
theorem RL {ops:Array Oper} {draw:Bool} {K K':(Nat→D)→(Nat→Option Row)→Prop} (hk:VL T Γ N ops draw t h e K) (h1:∀t h,K t h→K' t h):VL T Γ N ops draw t h e K':=by
 unfold VL at hk ⊢
 cases draw with
 | true=>exact sS (fun t h fs hh=>⟨hh.1,h1 _ _ hh.2⟩) _ _ _ _ hk
 | false=>exact sV h1 _ _ _ hk
theorem Oq {F:Nat} : ∀(c:Code) (t:Nat→D) (h:Nat→Option Row) (e:Nat) (K K':Kt),JY T Γ N F c t h e K→(∀x t h e,K x t h e→K' x t h e)→JY T Γ N F c t h e K':=by
 intro c
 induction c with
 | skip=>intro t h e K K' hk hm;exact hm _ _ _ _ hk
 | region i ops draw=>intro t h e K K' hk hm;exact RL hk fun t h hh=>hm _ _ _ _ hh
 | seq a b iha ihb =>
  intro t h e K K' hk hm
  refine iha _ _ _ _ _ hk fun x t h e hx =>?_
  cases x with
  | normal=>exact ihb _ _ _ _ _ hx hm
  | exit n=>exact hm _ _ _ _ hx
  | ret=>exact hm _ _ _ _ hx
 | cond c x y ihx ihy =>
  intro t h e K K' hk hm
  unfold JY at hk ⊢
  cases c with
  | tmp g=>exact wg hk (fun t ht=>ihx _ _ _ _ _ ht hm) (fun t ht=>ihy _ _ _ _ _ ht hm)
  | const v =>
   cases v with
   | bool b =>
    cases b with
    | true=>exact ihx _ _ _ _ _ hk hm
    | false=>exact ihy _ _ _ _ _ hk hm
   | _=>exact hk
  | _=>exact hk
 | block id b ih =>
  intro t h e K K' hk hm
  refine ih _ _ _ _ _ hk fun x t h e hx =>?_
  cases x with
  | normal=>exact hm _ _ _ _ hx
  | ret=>exact hm _ _ _ _ hx
  | exit n =>
   unfold OT at hx ⊢
   simp only at hx ⊢
   split at hx
   ·rename_i hn;rw[if_pos hn];exact hm _ _ _ _ hx
   ·rename_i hn;rw[if_neg hn];exact hm _ _ _ _ hx
 | loop b ih =>
  intro t h e K K' hk hm
  obtain⟨x,s,h1,h2⟩:=hk
  exact⟨x,s,h1,hm _ _ _ _ h2⟩
 | exit id=>intro t h e K K' hk hm;exact hm _ _ _ _ hk
 | ret=>intro t h e K K' hk hm;exact hm _ _ _ _ hk
 | _=>intro t h e K K' hk;exact hk.elim
def CK {σ:Type} (J:σ→(Nat→D)→(Nat→Option Row)→Nat→Prop) (P:σ→Prop) (R:Kt):Kt:=fun x t h e =>
 match x with
 | .normal=>∃s,P s∧J s t h e
 | x=>R x t h e
theorem al {σ:Type} {J:σ→(Nat→D)→(Nat→Option Row)→Nat→Prop} {P:σ→Prop} {R:Kt} : CK J P R .normal t h e = ∃s,P s∧J s t h e:=Eq.trans rfl rfl
end
section
variable {h:Nat→Option Row}
theorem Dj {k:IntKind} {n:Int} : canon (.int k n)=.int k n:=Eq.trans rfl rfl
theorem zR {b:Bool} : canon (.bool b)=.bool b:=Eq.trans rfl rfl
theorem Dl {b:ByteArray} : canon (.str b)=.str b:=Eq.trans rfl rfl
theorem GV {a b:Bool} {n:Nat} {xs:List D} : canon (.sl a b n xs)=.sl false false n xs:=Eq.trans rfl rfl
theorem zO {k:IntKind} {n:Int} : eB (.int k n)=.int k n:=Eq.trans rfl rfl
theorem xB {b:Bool} : eB (.bool b)=.bool b:=Eq.trans rfl rfl
theorem zQ {b:ByteArray} : eB (.str b)=.str b:=Eq.trans rfl rfl
theorem Di {a b:Bool} {n:Nat} {xs:List D} : eB (.sl a b n xs)=.sl false false n xs:=Eq.trans rfl rfl
theorem zN {xs:List D} : eB (.agg xs)=.agg (xs.map canon):=Eq.trans rfl rfl
def R7 (x s o n:Nat):Option Row→Option (D×List Nat)
 | some r=>if o+n*s≤r.cells.length then some (.sl false false n ((r.cells.drop o).take (n*s)),[x]) else none
 | none=>none
theorem G6 {x s o n:Nat} {r:Row} : R7 x s o n (some r)=if o+n*s≤r.cells.length then some (.sl false false n ((r.cells.drop o).take (n*s)),[x]) else none:=Eq.trans rfl rfl
def UE (x o:Nat):Option Row→Option (D×List Nat)
 | some r=>if o≤r.cells.length then some (.ip (r.cells.drop o),[x]) else none
 | none=>none
theorem Hb {x o:Nat} {r:Row} : UE x o (some r)=if o≤r.cells.length then some (.ip (r.cells.drop o),[x]) else none:=Eq.trans rfl rfl
theorem G2 {k:IntKind} {n:Int} : bD h (.int k n)=some (.int k n,[]):=Eq.trans rfl rfl
theorem Dn {b:Bool} : bD h (.bool b)=some (.bool b,[]):=Eq.trans rfl rfl
theorem G5 {b:ByteArray} : bD h (.str b)=some (.str b,[]):=Eq.trans rfl rfl
theorem Mb {a b:Bool} {n:Nat} {xs:List D} : bD h (.sl a b n xs)=some (.sl false false n xs,[]):=Eq.trans rfl rfl
theorem GY {xs:List D} : bD h (.agg xs)=some (.agg (xs.map canon),[]):=Eq.trans rfl rfl
theorem L9 {xs:List D} : bD h (.ip xs)=some (.ip xs,[]):=Eq.trans rfl rfl
theorem L8 {f:Nat} : bD h (.fn f)=some (.fn f,[]):=Eq.trans rfl rfl
theorem G0 {x v s o n:Nat} : bD h (.buf x v s o n)=R7 x s o n (live h x v):=by
 simp only[bD,aG,cT]
 cases live h x v with
 | none=>rfl
 | some r=>by_cases hc:o+n*s≤r.cells.length<;>simp[R7,hc,canon]
theorem G4 {x v o:Nat} : bD h (.ptr x v o)=UE x o (live h x v):=by
 simp only[bD,aG]
 cases live h x v with
 | none=>rfl
 | some r=>simp only[UE]
theorem Pg {k:IntKind} {n:Int} : dz h (.int k n)=some ([.int k n],[]):=Eq.trans rfl rfl
theorem Md {b:Bool} : dz h (.bool b)=some ([.bool b],[]):=Eq.trans rfl rfl
theorem Ph {b:ByteArray} : dz h (.str b)=some ([.str b],[]):=Eq.trans rfl rfl
theorem S0 {a b:Bool} {n:Nat} {xs:List D} : dz h (.sl a b n xs)=some ([.sl a b n xs],[]):=Eq.trans rfl rfl
theorem Pe {xs:List D} : dz h (.agg xs)=some (xs,[]):=Eq.trans rfl rfl
def V2:Option (D×List Nat)→Option (List D×List Nat)
 | some (d,fr)=>some ([d],fr)
 | none=>none
theorem Hj {d:D} {fr:List Nat} : V2 (some (d,fr))=some ([d],fr):=Eq.trans rfl rfl
theorem Pf {x v s o n:Nat} : dz h (.buf x v s o n)=V2 (R7 x s o n (live h x v)):=by
 simp only[dz,cT]
 cases live h x v with
 | none=>rfl
 | some r=>by_cases hc:o+n*s≤r.cells.length<;>simp[R7,V2,hc]
def VY (h:Nat→Option Row):Option (D×List Nat)→Option dj
 | some (d,fr)=>some ⟨d,gO h fr⟩
 | none=>none
theorem G8 {d:D} {fr:List Nat} : VY h (some (d,fr))=some ⟨d,gO h fr⟩:=Eq.trans rfl rfl
theorem LH {x v s o n:Nat} : fE h (.buf x v s o n)=VY h (R7 x s o n (live h x v)):=by
 simp only[fE,mQ,cT]
 cases live h x v with
 | none=>rfl
 | some r=>by_cases hc:o+n*s≤r.cells.length<;>simp[R7,VY,hc,canon,eB]
variable {Γ:Env} {f g e:Nat} {l:Bool} {G:Option (D×Row)→List D→Option (RK×Option Row)} {lent:Option (D×Row)} {WH:List D} {dst:Option Nat} {fr:List Nat}
theorem DY:(Am.ext Γ f l G).lends g=if g=f then l else Γ.lends g:=Eq.trans rfl rfl
theorem Mm:(Am.ext Γ f l G).sem g lent WH=if g=f then G lent WH else Γ.sem g lent WH:=Eq.trans rfl rfl
theorem Ml {d:Nat} : (Am.ext Γ f l G).own d=Γ.own d:=Eq.trans rfl rfl
theorem Ei {d:Nat} : aT.own d=true:=Eq.trans rfl rfl
theorem Ie {d i:Nat} : (Am.keep d Γ).own i=(i != d&&Γ.own i):=Eq.trans rfl rfl
theorem A1 {d i:Nat} : (Am.keep d Γ).lends i=Γ.lends i:=Eq.trans rfl rfl
theorem Ig {d i:Nat} : (Am.keep d Γ).sem i lent WH=Γ.sem i lent WH:=Eq.trans rfl rfl
def Cc (lends:Bool) (Γ:Env) (h:Nat→Option Row) (e:Nat) (dst:Option Nat) (g:Nat) (args:List D):Option dj :=
 if lends then
  match args with
  | .buf x v s o n::rest=>qk Γ h e dst g x v (.buf 0 0 s o n) rest
  | .ptr x v o::rest=>qk Γ h e dst g x v (.ptr 0 0 o) rest
  | _=>none
 else qZ Γ h e dst g args
def R5 (p:Option (Nat×Nat×Nat)) (Γ:Env) (h:Nat→Option Row) (e:Nat) (dst:Option Nat) (g:Nat) (args:List D):Option dj :=
 match p with
 | some p=>qh h e dst p args
 | none =>
  match Γ.grw g with
  | some p=>qg h p args
  | none=>Cc (Γ.lends g) Γ h e dst g args
def TS (p:Option Grow) (Γ:Env) (h:Nat→Option Row) (e:Nat) (dst:Option Nat) (g:Nat) (args:List D):Option dj :=
 match p with
 | some p=>qg h p args
 | none=>Cc (Γ.lends g) Γ h e dst g args
theorem De {args:List D} : R5 none Γ h e dst g args=TS (Γ.grw g) Γ h e dst g args:=Eq.trans rfl rfl
theorem Dc {args:List D} : TS none Γ h e dst g args=Cc (Γ.lends g) Γ h e dst g args:=Eq.trans rfl rfl
theorem Dd {p:Grow} {args:List D} : TS (some p) Γ h e dst g args=qg h p args:=Eq.trans rfl rfl
theorem Mj {f:Nat} {l:Bool} {G:Option (D×Row)→List D→Option (RK×Option Row)} : (Am.ext Γ f l G).grw g=Γ.grw g:=Eq.trans rfl rfl
theorem Ib {d:Nat} : (Am.keep d Γ).grw g=Γ.grw g:=Eq.trans rfl rfl
theorem H2 {d y:Nat} : (Am.tC d y Γ).grw g=Γ.grw g:=Eq.trans rfl rfl
theorem H6 {f:Nat} {p:Nat×Nat×Nat} : (Am.AX f p Γ).grw g=Γ.grw g:=Eq.trans rfl rfl
theorem Eg:aT.grw g=none:=Eq.trans rfl rfl
theorem HW {f:Nat} {p:Grow} : (Am.wZ f p Γ).grw g=if g=f then some p else Γ.grw g:=Eq.trans rfl rfl
theorem HX {f:Nat} {p:Grow} : (Am.wZ f p Γ).ins g=Γ.ins g:=Eq.trans rfl rfl
theorem AR {f:Nat} {p:Grow} : (Am.wZ f p Γ).lends g=Γ.lends g:=Eq.trans rfl rfl
theorem HZ {f:Nat} {p:Grow} {l:Option (D×Row)} {WH:List D} : (Am.wZ f p Γ).sem g l WH=Γ.sem g l WH:=Eq.trans rfl rfl
theorem HY {f:Nat} {p:Grow} {d:Nat} : (Am.wZ f p Γ).own d=Γ.own d:=Eq.trans rfl rfl
theorem D6 {f:Nat} {p:Grow} {d:Nat} : (Am.wZ f p Γ).hint d=Γ.hint d:=Eq.trans rfl rfl
def VS (v:Nat):Option Row→Option (Row×Nat×Nat×Nat)
 | some r=>if r.v=v∧r.mp=true then (match r.cells with | [.ph y s n]=>some (r,y,s,n)|_=>none) else none
 | none=>none
theorem Iq {x v:Nat} : jy h x v=VS v (h x):=by
 unfold jy VS
 cases h x<;>rfl
theorem Iu {v ty y s n:Nat} {fz lst:Bool} : VS v (some ⟨v,ty,[.ph y s n],fz,lst,true⟩)=some (⟨v,ty,[.ph y s n],fz,lst,true⟩,y,s,n):=by simp[VS]
def OV (p:Grow) (y k:Nat) (rest:List D):Option (Row×Nat×Nat×Nat)→Option Row→Option dj
 | some (ry,k',s,n),some r =>
   if k'=k∧k=PK+y∧ry.fz=false∧r.mp=false∧r.fz=false∧r.lst=true∧s=p.k∧r.ty=p.ty∧r.cells.length=n*p.k∧(n+1)*p.bytes≤140737488355328 then
    match p.sem r.cells rest with
    | some cs=>some ⟨.int .i64 (n:Int),[(k,some ⟨r.v,p.ty,r.cells++cs,false,true,false⟩),(y,some ⟨ry.v,ry.ty,[.ph k p.k (n+1)],false,false,true⟩)]⟩
    | none=>none
   else none
 | _,_=>none
theorem L0 {p:Grow} {y v k:Nat} {rest:List D} : qg h p (.pm y v k::rest)=OV p y k rest (jy h y v) (h k):=Eq.trans rfl rfl
def SZ (k y v ty e' ty' k' n:Nat) (cells:List D):Option (List D)→Option dj
 | some cs=>some ⟨.int .i64 (n:Int),[(k,some ⟨e',ty',cells++cs,false,true,false⟩),(y,some ⟨v,ty,[.ph k k' (n+1)],false,false,true⟩)]⟩
 | none=>none
theorem zF {ty' k' by_:Nat} {sem:List D→List D→Option (List D)} {y k:Nat} {rest:List D} {v ty s n e' tyr:Nat} {cells:List D} : OV ⟨ty',k',by_,sem⟩ y k rest (some (⟨v,ty,[.ph k s n],false,false,true⟩,k,s,n)) (some ⟨e',tyr,cells,false,true,false⟩) =
  if k=1000000+y∧s=k'∧tyr=ty'∧cells.length=n*k'∧(n+1)*by_≤140737488355328 then SZ k y v ty e' ty' k' n cells (sem cells rest) else none:=by
 simp only[OV,PK,true_and]
 cases sem cells rest<;>rfl
theorem zG {k y v ty e' ty' k' n:Nat} {cells cs:List D} : SZ k y v ty e' ty' k' n cells (some cs)=some ⟨.int .i64 (n:Int),[(k,some ⟨e',ty',cells++cs,false,true,false⟩),(y,some ⟨v,ty,[.ph k k' (n+1)],false,false,true⟩)]⟩:=Eq.trans rfl rfl
theorem Df {p:Nat×Nat×Nat} {args:List D} : R5 (some p) Γ h e dst g args=qh h e dst p args:=Eq.trans rfl rfl
theorem Mk {f:Nat} {l:Bool} {G:Option (D×Row)→List D→Option (RK×Option Row)} : (Am.ext Γ f l G).ins g=Γ.ins g:=Eq.trans rfl rfl
theorem Ic {d:Nat} : (Am.keep d Γ).ins g=Γ.ins g:=Eq.trans rfl rfl
theorem H3 {d y:Nat} : (Am.tC d y Γ).ins g=Γ.ins g:=Eq.trans rfl rfl
theorem Eh:aT.ins g=none:=Eq.trans rfl rfl
theorem H7 {f:Nat} {p:Nat×Nat×Nat} : (Am.AX f p Γ).ins g=if g=f then some p else Γ.ins g:=Eq.trans rfl rfl
theorem AY {f:Nat} {p:Nat×Nat×Nat} : (Am.AX f p Γ).lends g=Γ.lends g:=Eq.trans rfl rfl
theorem H9 {f:Nat} {p:Nat×Nat×Nat} {l:Option (D×Row)} {WH:List D} : (Am.AX f p Γ).sem g l WH=Γ.sem g l WH:=Eq.trans rfl rfl
theorem H8 {f:Nat} {p:Nat×Nat×Nat} {d:Nat} : (Am.AX f p Γ).own d=Γ.own d:=Eq.trans rfl rfl
theorem D9 {f:Nat} {p:Nat×Nat×Nat} {d:Nat} : (Am.AX f p Γ).hint d=Γ.hint d:=Eq.trans rfl rfl
def OW (ty k by_ x y s s' o o' n m:Nat) (i:Int) (e:Nat) (d:Nat):Option Row→Option Row→Option dj
 | some r,some r' =>
   if r.fz=false∧r'.fz=false∧r.lst=true∧r'.lst=true∧x≠y∧s=k∧s'=k∧r.ty=ty∧r'.ty=ty∧o=0∧o'=0∧r.cells.length=n*k∧r'.cells.length=m*k∧0≤i∧i≤n∧0<m∧(n+m)*by_≤140737488355328 then
    some ⟨.buf d e k 0 (n+m),[(y,none),(x,none),(d,some ⟨e,ty,r.cells.take (i.toNat*k)++(r'.cells++r.cells.drop (i.toNat*k)),false,true,false⟩)]⟩
   else none
 | _,_=>none
theorem L1 {ty k by_ x v s o n y v' s' o' m d:Nat} {i:Int} : qh h e (some d) (ty,k,by_) [.buf x v s o n,.int .i64 i,.buf y v' s' o' m]=OW ty k by_ x y s s' o o' n m i e d (live h x v) (live h y v'):=by
 simp only[qh,OW]
 cases live h x v with
 | none=>rfl
 | some r=>cases live h y v'<;>rfl
theorem zH {ty k by_ x y s s' o o' n m : Nat} {i : Int} {d : Nat} {r r' : Row} : OW ty k by_ x y s s' o o' n m i e d (some r) (some r') = if r.fz = false ∧ r'.fz = false ∧ r.lst = true ∧ r'.lst = true ∧ x ≠ y ∧ s = k ∧ s' = k ∧ r.ty = ty ∧ r'.ty = ty ∧ o = 0 ∧ o' = 0 ∧ r.cells.length = n * k ∧ r'.cells.length = m * k ∧ 0 ≤ i ∧ i ≤ n ∧ 0 < m ∧ (n + m) * by_ ≤ 140737488355328 then
        some ⟨.buf d e k 0 (n + m), [(y, none), (x, none), (d, some ⟨e, ty, r.cells.take (i.toNat * k) ++ (r'.cells ++ r.cells.drop (i.toNat * k)), false, true, false⟩)]⟩
      else none := Eq.trans rfl rfl
theorem L2 {args:List D} : fB Γ h e dst (.fn g) args=R5 (Γ.ins g) Γ h e dst g args:=by
 simp only[fB,R5,Cc]
 cases Γ.ins g with
 | none=>cases Γ.grw g<;>rfl
 | some p=>rfl
def No (h:Nat→Option Row) (e:Nat) (dst:Option Nat) (fr:List Nat):Option (RK×Option Row)→Option dj
 | some (.clean r,_)=>some ⟨r,if eU r then [] else gO h fr⟩
 | some (.fresh ty s n cells,_) =>
  match dst with
  | some d=>if fr.contains d=false then some ⟨.buf d e s 0 n,(if nc cells then [] else gO h fr)++[(d,some ⟨e,ty,cells,false,true,false⟩)]⟩ else none
  | none=>none
 | _=>none
def TR (Γ:Env) (h:Nat→Option Row) (e:Nat) (dst:Option Nat) (g:Nat):Option (List D×List Nat)→Option dj
 | some (WH,fr)=>No h e dst fr (Γ.sem g none WH)
 | none=>none
theorem Dh {args:List D} : Cc false Γ h e dst g args=TR Γ h e dst g (bU h args):=by
 simp only[Cc,Bool.false_eq_true,if_false,qZ,TR]
 cases bU h args with
 | none=>rfl
 | some p =>
  obtain⟨WH,fr⟩:=p
  simp only
  cases hs:Γ.sem g none WH with
  | none=>rfl
  | some q =>
   obtain⟨rk,o⟩:=q
   cases rk<;>rfl
theorem Db:TR Γ h e dst g (some (WH,fr))=No h e dst fr (Γ.sem g none WH):=Eq.trans rfl rfl
def PG (h:Nat→Option Row) (fr:List Nat):Bool→List (Nat×Option Row)
 | true=>[]
 | false=>gO h fr
theorem D5:PG h fr true=[]:=Eq.trans rfl rfl
theorem AH:PG h fr false=gO h fr:=Eq.trans rfl rfl
theorem HK {b:Bool} : PG h [] b=[]:=by cases b<;>rfl
theorem zL {r:D} {o:Option Row} : No h e dst fr (some (.clean r,o))=some ⟨r,PG h fr (eU r)⟩:=by
 simp only[No]
 cases eU r<;>rfl
theorem Mn:gO h []=[]:=Eq.trans rfl rfl
theorem HL {x:Nat} : gO h (x::fr)=(x,(h x).map oH)::gO h fr:=Eq.trans rfl rfl
theorem PJ {v ty:Nat} {cells:List D} {lst mp:Bool} : oH ⟨v,ty,cells,true,lst,mp⟩=⟨v,ty,cells,true,lst,mp⟩:=Eq.trans rfl rfl
theorem PH {v ty:Nat} {cells:List D} {lst mp:Bool} : oH ⟨v,ty,cells,false,lst,mp⟩=⟨v,ty,cells,true,true,mp⟩:=Eq.trans rfl rfl
theorem Dp:bU h []=some ([],[]):=Eq.trans rfl rfl
def VX (p:Option (D×List Nat)) (q:Option (List D×List Nat)):Option (List D×List Nat) :=
 match p,q with
 | some (d',fr),some (ds',fr')=>some (d'::ds',fr++fr')
 | _,_=>none
theorem GI {d:D} {fr fr':List Nat} {ds:List D} : VX (some (d,fr)) (some (ds,fr'))=some (d::ds,fr++fr'):=Eq.trans rfl rfl
theorem zS {d:D} {ds:List D} : bU h (d::ds)=VX (bD h d) (bU h ds):=by
 simp only[bU]
 cases bD h d with
 | none=>rfl
 | some p=>cases bU h ds<;>rfl
variable {T:Nat→Option Ty} {s:St} {rs:List ResultVar} {r:ResultVar}
theorem Jm:uC T s []=some ([],[]):=Eq.trans rfl rfl
theorem EK:uC T s (r::rs)=VX (Jk T s r) (uC T s rs):=by
 simp only[uC]
 cases Jk T s r with
 | none=>rfl
 | some p=>cases uC T s rs<;>rfl
theorem Jl {t:Nat→D} {i:Nat} : Jk T ⟨t,h,e⟩ (.tmp i)=bD h (t i):=Eq.trans rfl rfl
def Ua (T:Nat→Option Ty) (h:Nat→Option Row) (d:D) (τ:Option Ty):Option (D×List Nat) :=
 match τ,d with
 | some τ,.ptr x v o=>match cW τ h (.ptr x v o) with|some E=>some (eB E.val,[])|none=>none
 | _,_=>none
theorem EI {t:Nat→D} {i ty:Nat} : Jk T ⟨t,h,e⟩ (.cell i ty)=Ua T h (t i) (T ty):=Eq.trans rfl rfl
def Ub:Option dj→Option (D×List Nat)
 | some E=>some (eB E.val,[])
 | none=>none
theorem EJ {d:D} {w:List (Nat×Option Row)} : Ub (some ⟨d,w⟩)=some (eB d,[]):=Eq.trans rfl rfl
theorem Jj {τ:Ty} {x v o:Nat} : Ua T h (.ptr x v o) (some τ)=Ub (cW τ h (.ptr x v o)):=by
 simp only[Ua,Ub]
def TU (p:Option (List D×List Nat)):Option (RK×Option Row) :=
 match p with
 | some (ds,_)=>some (.clean (oA ds),none)
 | none=>none
theorem DQ {ds:List D} {fr:List Nat} : TU (some (ds,fr))=some (.clean (oA ds),none):=Eq.trans rfl rfl
theorem Aw:fw .clean T none rs s=TU (uC T s rs):=by
 simp only[fw,rB,jX,Sv,TU]
 cases uC T s rs<;>rfl
theorem zM {ty sz n d:Nat} {cells:List D} {o:Option Row} : No h e (some d) fr (some (.fresh ty sz n cells,o))=if fr.contains d=false then some ⟨.buf d e sz 0 n,PG h fr (nc cells)++[(d,some ⟨e,ty,cells,false,true,false⟩)]⟩ else none:=by
 simp only[No]
 cases nc cells<;>rfl
theorem wU {k:IntKind} : ∀l:List Int,nc (ab (eI k) l)=true
 | []=>rfl
 | x::l=>by
  have:=wU (k:=k) l
  simp only[aF,u7,List.cons_append,List.nil_append,nc,eU,this,Bool.and_self]
theorem Ax {ty sz i:Nat} {t:Nat→D} : fw (.fresh ty sz) T none [.tmp i] ⟨t,h,e⟩=ky ty sz h (t i):=Eq.trans rfl rfl
theorem Ay {i:Nat} {t:Nat→D} : fw .tight T none [.tmp i] ⟨t,h,e⟩=ss (t i):=Eq.trans rfl rfl
theorem PA {nl tg:Bool} {n:Nat} {xs:List D} : ss (.sl nl tg n xs)=some (.clean (.sl nl tg n xs),none):=Eq.trans rfl rfl
theorem Mh {ty sz x v o n:Nat} : ky ty sz h (.buf x v sz o n)=sr ty sz o n (live h x v):=by simp[ky]
theorem Py {ty sz:Nat} {nl tg:Bool} {xs:List D} : ky ty sz h (.sl nl tg 0 xs)=if tg=true then some (.fresh ty sz 0 [],none) else none:=Eq.trans rfl rfl
theorem HB {ty sz o n:Nat} {r:Row} : sr ty sz o n (some r)=if r.fz=false∧r.ty=ty∧o+n*sz≤r.cells.length then some (.fresh ty sz n ((r.cells.drop o).take (n*sz)),none) else none:=Eq.trans rfl rfl
theorem BH {d:D} : oA [d]=d:=Eq.trans rfl rfl
theorem BI {d d':D} {ds:List D} : oA (d::d'::ds)=.tup (d::d'::ds):=Eq.trans rfl rfl
end
theorem Mg (k:IntKind):(eI k).size=1:=Eq.trans rfl rfl
theorem Ak:xN.size=1:=Eq.trans rfl rfl
theorem DO:nA.size=1:=Eq.trans rfl rfl
theorem HA {α:Type} (e:kj α):(jv e).size=1:=Eq.trans rfl rfl
section
variable {α:Type} (E:kj α) {l m:List α} {x x' z:α} {i a b n c:Int} {B:Nat}
theorem AV (h:P.idx l i=some x):0≤i∧i<l.length:=by
 unfold P.idx at h
 split at h
 ·assumption
 ·cases h
theorem FF (h:P.idx l i=some x):l[i.toNat]? = some x:=by
 unfold P.idx at h
 split at h
 ·exact h
 ·cases h
theorem vx (h:P.idx l i=some x):(ab E l).drop (i.toNat*E.size)=E.cells x++ab E (l.drop (i.toNat+1)):=by
 have h':=FF h
 obtain⟨hi,rfl⟩:=List.getElem?_eq_some_iff.1 h'
 rw[sq,List.drop_eq_getElem_cons hi]
 rfl
theorem sL (h:P.idx l i=some x):i.toNat*E.size+E.size≤l.length*E.size:=by
 have h':=AV h
 have:i.toNat+1≤l.length:=by omega
 have:=Nat.mul_le_mul_right E.size this
 rwa [Nat.succ_mul]at this
theorem bT (h:P.idx l i=some x):(0≤i∧i<l.length)∧(ab E l).drop (i.toNat*E.size)=E.cells x++ab E (l.drop (i.toNat+1))∧i.toNat*E.size+E.size≤l.length*E.size:=⟨AV h,vx E h,sL E h⟩
theorem QH:∀(l:List α) (i:Nat) (x:α),l[i]? = some x→∀x',ab E (l.set i x')=(ab E l).take (i*E.size)++E.cells x'++(ab E l).drop (i*E.size+E.size)
 | [],i,x,h,x'=>by simp at h
 | y::l,0,x,h,x'=>by
  rw[List.set_cons_zero,aF,aF,Nat.zero_mul,List.take_zero,List.nil_append,Nat.zero_add,List.drop_append,E.len,Nat.sub_self,List.drop_zero,List.drop_eq_nil_of_le (by rw[E.len];exact Nat.le_refl _),List.nil_append]
 | y::l,i+1,x,h,x'=>by
  have ih:=QH l i x (by simpa using h) x'
  rw[List.set_cons_succ,aF,aF,ih,Nat.succ_mul]
  have hy:=E.len y
  have e1:(E.cells y++ab E l).take (i*E.size+E.size)=E.cells y++(ab E l).take (i*E.size):=by rw[List.take_append,hy,List.take_of_length_le (by omega),Nat.add_sub_cancel]
  have e2:(E.cells y++ab E l).drop (i*E.size+E.size+E.size)=(ab E l).drop (i*E.size+E.size):=by
   rw[List.drop_append,hy,List.drop_eq_nil_of_le (by omega),List.nil_append,Nat.add_sub_cancel]
  rw[e1,e2]
  simp only[List.append_assoc]
theorem nV (fo:Nat) (cs:List D) (h:P.idx l i=some x) (hc:E.cells x'=putCells (E.cells x) fo cs) (hfo:fo+cs.length≤E.size):putCells (ab E l) (i.toNat*E.size+fo) cs=ab E (l.set i.toNat x'):=by
 have h':=FF h
 rw[QH E l i.toNat x h' x',hc]
 have he:=vx E h
 have hf:=sL E h
 have hl:=cq E l
 have hx:=E.len x
 have hsplit:ab E l=(ab E l).take (i.toNat*E.size)++(E.cells x++(ab E l).drop (i.toNat*E.size+E.size)):=by
  have h1:=List.take_append_drop (i.toNat*E.size) (ab E l)
  have h2:(ab E l).drop (i.toNat*E.size+E.size)=ab E (l.drop (i.toNat+1)):=by
   rw[← List.drop_drop,he,List.drop_append,hx,Nat.sub_self,List.drop_zero,List.drop_eq_nil_of_le (by omega),List.nil_append]
  rw[h2,← he,h1]
 generalize (ab E l).drop (i.toNat*E.size+E.size)=r at *
 generalize ht:(ab E l).take (i.toNat*E.size)=p at *
 have hp:p.length=i.toNat*E.size:=by rw[← ht];simp;omega
 unfold putCells
 rw[hsplit]
 have e1:(p++(E.cells x++r)).take (i.toNat*E.size+fo)=p++(E.cells x).take fo:=by
  rw[List.take_append,hp,List.take_of_length_le (by omega),Nat.add_sub_cancel_left,List.take_append_of_le_length (by omega)]
 have e2:(p++(E.cells x++r)).drop (i.toNat*E.size+fo+cs.length)=(E.cells x).drop (fo+cs.length)++r:=by
  rw[Nat.add_assoc,List.drop_append,hp,List.drop_eq_nil_of_le (by omega),Nat.add_sub_cancel_left,List.nil_append,List.drop_append_of_le_length (by omega)]
 rw[e1,e2]
 simp only[List.append_assoc]
theorem Qs (h:P.idx l i=some x):putCells (ab E l) (i.toNat*E.size) (E.cells x')=ab E (l.set i.toNat x'):=by
 have:=nV E (x':=x') 0 (E.cells x') h (by unfold putCells;simp[E.len]) (by rw[E.len];omega)
 simpa using this
theorem IW (h:IU B n c z=some m):m=List.replicate n.toNat z∧0≤n∧n≤c∧c≤maxLen∧c.toNat*B≤140737488355328:=by
 unfold IU at h
 split at h
 ·cases h;exact⟨rfl,by assumption⟩
 ·cases h
theorem mk_one (h:IU B n n z=some m):0≤n∧n.toNat=m.length∧m.length≤maxLen∧nq m.length (E.cells z)=ab E m∧m.length*B≤140737488355328:=by
 obtain⟨rfl,h1,_,h3,h4⟩:=IW h
 refine⟨h1,by simp,by simp;omega,by rw[Av];simp,by simpa using h4⟩
theorem T4 (h:IU B n c z=some m):0≤n∧0≤c∧n.toNat=m.length∧nq m.length (E.cells z)=ab E m∧m.length≤c.toNat∧c.toNat≤maxLen∧c.toNat*B≤140737488355328:=by
 obtain⟨rfl,h1,h2,h3,h4⟩:=IW h
 refine⟨h1,by omega,by simp,by rw[Av];simp,by simp;omega,by omega,h4⟩
theorem xo (h:yY l a b=some m):0≤a∧0≤b∧a.toNat≤b.toNat∧b.toNat≤l.length∧b.toNat-a.toNat=m.length∧(List.take (m.length*E.size) (List.drop (a.toNat*E.size) (ab E l))=ab E m):=by
 unfold yY at h
 split at h
 ·rename_i hc
  cases h
  have hl:((l.drop a.toNat).take (b.toNat-a.toNat)).length=b.toNat-a.toNat:=by simp;omega
  refine⟨hc.1,by omega,by omega,by omega,hl.symm,?_⟩
  rw[hl,sq,eK]
 ·cases h
theorem Uf (h:yY l a b=some m):0≤a∧0≤b∧(a.toNat≤b.toNat∧b.toNat≤l.length)∧b.toNat-a.toNat=m.length∧(List.take (m.length*E.size) (List.drop (a.toNat*E.size) (ab E l))=ab E m):=by
 obtain⟨h1,h2,h3,h4,h5,h6⟩:=xo E h
 exact⟨h1,h2,⟨h3,h4⟩,h5,h6⟩
theorem Ug (h:yY l a (l.length:Int)=some m):0≤a∧0≤a∧a.toNat≤l.length∧l.length-a.toNat=m.length∧(List.take (m.length*E.size) (List.drop (a.toNat*E.size) (ab E l))=ab E m):=by
 obtain⟨h1,h2,h3,h4,h5,h6⟩:=xo E h
 simp only[Int.toNat_natCast]at h3 h5
 exact⟨h1,h1,h3,h5,h6⟩
theorem uD (h:yY l 0 b=some m):0≤b∧0≤b∧m.length≤l.length∧b.toNat=m.length∧(List.take (m.length*E.size) (ab E l)=ab E m):=by
 obtain⟨h1,h2,h3,h4,h5,h6⟩:=xo E h
 have h5':b.toNat=m.length:=by simpa using h5
 refine⟨h2,h2,by omega,h5',by simpa using h6⟩
theorem wJ {n:List α} (h:eY B l m=some n):n=l++m∧n.length≤maxLen∧n.length*B≤140737488355328:=by
 unfold eY at h
 split at h
 ·rename_i hc
  cases h
  exact⟨rfl,by rw[List.length_append];exact hc.1,by rw[List.length_append];exact hc.2⟩
 ·cases h
theorem eo {n:List α} (h:eY B l [x]=some n):l.length+1=n.length∧ab E l++E.cells x=ab E n∧n.length≤maxLen∧n.length*B≤140737488355328:=by
 obtain⟨rfl,h1,h2⟩:=wJ h
 exact⟨by simp,by rw[fc];simp[ab],h1,h2⟩
theorem l6 {n:List α} (h:eY B [] l=some n):n=l∧l.length≤maxLen∧l.length*B≤140737488355328:=by
 obtain⟨rfl,h1,h2⟩:=wJ h
 exact⟨rfl,h1,h2⟩
theorem RZ {n:List α} (h:eY B l m=some n):l.length+m.length=n.length∧ab E l++ab E m=ab E n∧n.length≤maxLen∧n.length*B≤140737488355328:=by
 obtain⟨rfl,h1,h2⟩:=wJ h
 exact⟨by simp,by rw[fc],h1,h2⟩
end
theorem pz {k:IntKind} {x y z:Int} (h:zW k x y=some z):¬y=0∧k.wrap (x.tdiv y)=z:=by
 unfold zW at h
 split at h
 ·cases h
 ·cases h;exact⟨by assumption,rfl⟩
theorem pM {k:IntKind} {x y z:Int} (h:vD k x y=some z):¬y=0∧x.tmod y=z:=by
 unfold vD at h
 split at h
 ·cases h
 ·cases h;exact⟨by assumption,rfl⟩
theorem zg {k:IntKind} {x y z:Int} (h:CS k x y=some z):¬y<0∧k.wrap (x*2 ^ (min y.toNat k.bits))=z:=by
 unfold CS at h
 split at h
 ·cases h
 ·cases h;exact⟨by assumption,rfl⟩
theorem p7 {k:IntKind} {x y z:Int} (h:BU k x y=some z):¬y<0∧x.fdiv (2 ^ (min y.toNat k.bits))=z:=by
 unfold BU at h
 split at h
 ·cases h
 ·cases h;exact⟨by assumption,rfl⟩
theorem LY (op:BinOp) (k:IntKind) (x y:Int):zC op k x y=ot op k x y:=Eq.trans rfl rfl
theorem ML {s:ByteArray} {i x:Int} (h:P.SF s i=some x):0≤i∧0≤i∧s[i.toNat]? = some (UInt8.ofNat x.toNat)∧((UInt8.ofNat x.toNat).toNat:Int)=x:=by
 unfold P.SF at h
 split at h
 ·rename_i hi
  rw[Option.map_eq_some_iff]at h
  obtain⟨b,h1,h2⟩:=h
  subst h2
  have:UInt8.ofNat (b.toNat:Int).toNat=b:=by simp
  exact⟨hi,hi,by rw[h1,this],by rw[this]⟩
 ·cases h
theorem oe.emp {P:Program} {f:FuncId} {rk:RK} {out:Option Row} (h1:oe P f none [.sl true true 0 []] rk out) (h2:oe P f none [.sl true false 0 []] rk out):oe P f none [.sl false false 0 []] rk out:=by
 intro w M vs hM ha
 have hd:=ha.2 0 _ rfl
 generalize hu:vs.getD 0 undef=u at hd
 cases hd with
 | sl A c nl tight n xs us k1 k2 k3 k4 k5 k6 k7 k8 =>
  cases A with
  | none =>
   refine h1 w M vs hM ⟨ha.1,fun j d hj =>?_,ha.tab⟩
   cases j with
   | zero=>cases hj;rw[hu];exact .sl none c true true 0 [] us k1 k2 (fun _=>⟨fun _=>⟨rfl,(k4 rfl).2⟩,fun h=>by cases h⟩) k4 (fun _=>(k4 rfl).2) k6 k7 k8
   | succ j=>simp at hj
  | some A =>
   refine h2 w M vs hM ⟨ha.1,fun j d hj =>?_,ha.tab⟩
   cases j with
   | zero=>cases hj;rw[hu];exact .sl (some A) c true false 0 [] us k1 k2 (fun _=>⟨(fun h=>by cases h),fun _ h=>by cases h⟩) k4 (fun h=>by cases h) k6 k7 k8
   | succ j=>simp at hj
theorem bI.Tn {P:Program} {T:Nat→Option Ty} {Γ:Env} (hT:km P T) (hΓ:bM P Γ) (hm:P.follows .mixedOrders=true) {α β:Type} {E:kj α} {F:List α→Option β} {R:β→RK} {mode:Mode} {f:FuncId} {fn:Func} (hf:P.funcs[f]? = some fn) (hok:(match fn.body with|some c=>codeOk c|none=>true)=true)
  (hc:(fn.name == "runtime.NumGoroutine")=false∧fn.body.isNone=false) (hn:1≤fn.ntmps)
  (h0:∀r,F []=some r→aQ mode T Γ FU fn none [.sl true true 0 []]=some (R r,none))
  (h1:∀r,F []=some r→aQ mode T Γ FU fn none [.sl true false 0 []]=some (R r,none))
  (h2:∀l r,0<l.length→F l=some r→aQ mode T Γ FU fn none [.sl false false l.length (ab E l)]=some (R r,none)):bI P f (ez (dJ (gg E)) F R) where
 calls lent WH rk out hg:=by
  obtain⟨rfl,rfl,l,r,rfl,hr,rfl⟩:=oL hg
  cases l with
  | nil=>exact oe.emp (jD hT hΓ hm hf hok hn rfl (h0 r hr)) (jD hT hΓ hm hf hok hn rfl (h1 r hr))
  | cons x l=>exact jD hT hΓ hm hf hok hn rfl (h2 (x::l) r (by simp) hr)
 callable:=⟨fn,hf,hc⟩
theorem Wo:type_of% (ai @E7<|ai @zE<|ai @ER<|ai @Jr<|ai @Jq<|ai @EO<|ai @BP<|ai @EP<|ai @aZ<|ai @aR<|ai @qB<|ai @bc<|ai @tM<|ai @yq<|ai @BS<|ai @EN<|ai @EY<|ai @B1<|ai @Jo<|ai @EL<|ai @BM<|ai @EZ<|ai @B2<|ai @B3<|ai @yD<|ai @Jp<|ai @EM<|ai @BN<|ai @E0<|ai @B4<|ai @B5<|ai @yE<|ai @JF<|ai @JG<|ai @MM<|ai @MN<|ai @Bm<|ai @xZ<|ai @Bn<|ai @yb<|ai @Ho<|ai @Hu<|ai @Hn<|ai @Ht<|ai @zX<|ai @z6<|ai @Dv<|ai @DD<|ai @Hp<|ai @Hv<|ai @Hl<|@Hr):=⟨@E7,@zE,@ER,@Jr,@Jq,@EO,@BP,@EP,@aZ,@aR,@qB,@bc,@tM,@yq,@BS,@EN,@EY,@B1,@Jo,@EL,@BM,@EZ,@B2,@B3,@yD,@Jp,@EM,@BN,@E0,@B4,@B5,@yE,@JF,@JG,@MM,@MN,@Bm,@xZ,@Bn,@yb,@Ho,@Hu,@Hn,@Ht,@zX,@z6,@Dv,@DD,@Hp,@Hv,@Hl,@Hr⟩
theorem Wp:type_of% (ai @DB<|ai @DJ<|ai @uY<|ai @u5<|ai @tk<|ai @tr<|ai @Dx<|ai @DF<|ai @tl<|ai @tu<|ai @Dy<|ai @DG<|ai @Dz<|ai @DH<|ai @Dw<|ai @DE<|ai @rj<|ai @rl<|ai @tn<|ai @tv<|ai @Du<|ai @DC<|ai @Me<|ai @Mf<|ai @xE<|ai @xI<|ai @xF<|ai @xJ<|ai @Hk<|ai @Hq<|ai @xD<|ai @xH<|ai @I2<|ai @Jd<|ai @C9<|ai @xu<|ai @Dt<|ai @HH<|ai @Ah<|ai @Ag<|ai @AT<|ai @AS<|ai @cu<|ai @xU<|ai @cr<|ai @pO<|ai @Ni<|ai @GC<|ai @C1<|ai @C0<|ai @Ej<|@D0):=⟨@DB,@DJ,@uY,@u5,@tk,@tr,@Dx,@DF,@tl,@tu,@Dy,@DG,@Dz,@DH,@Dw,@DE,@rj,@rl,@tn,@tv,@Du,@DC,@Me,@Mf,@xE,@xI,@xF,@xJ,@Hk,@Hq,@xD,@xH,@I2,@Jd,@C9,@xu,@Dt,@HH,@Ah,@Ag,@AT,@AS,@cu,@xU,@cr,@pO,@Ni,@GC,@C1,@C0,@Ej,@D0⟩
theorem Wq:type_of% (ai @D1<|ai @yx<|ai @B0<|ai @BZ<|ai @yC<|ai @sg<|ai @qE<|ai @yz<|ai @qF<|ai @yA<|ai @qG<|ai @yw<|ai @EW<|ai @tR<|ai @tS<|ai @yy<|ai @oT<|ai @yB<|ai @BY<|ai @tQ<|ai @v8<|ai @MA<|ai @I0<|ai @EH<|ai @EG<|ai @Eb<|ai @LP<|ai @GF<|ai @LU<|ai @OQ<|ai @LS<|ai @ON<|ai @LN<|ai @LV<|ai @OM<|ai @y7<|ai @LW<|ai @LO<|ai @C2<|ai @zx<|ai @LR<|ai @C3<|ai @Dj<|ai @zR<|ai @Dl<|ai @GV<|ai @zO<|ai @xB<|ai @zQ<|ai @Di<|ai @zN<|@G6):=⟨@D1,@yx,@B0,@BZ,@yC,@sg,@qE,@yz,@qF,@yA,@qG,@yw,@EW,@tR,@tS,@yy,@oT,@yB,@BY,@tQ,@v8,@MA,@I0,@EH,@EG,@Eb,@LP,@GF,@LU,@OQ,@LS,@ON,@LN,@LV,@OM,@y7,@LW,@LO,@C2,@zx,@LR,@C3,@Dj,@zR,@Dl,@GV,@zO,@xB,@zQ,@Di,@zN,@G6⟩
theorem Wr:type_of% (ai @Hb<|ai @G2<|ai @Dn<|ai @G5<|ai @Mb<|ai @GY<|ai @L9<|ai @L8<|ai @G0<|ai @G4<|ai @Pg<|ai @Md<|ai @Ph<|ai @S0<|ai @Pe<|ai @Pf<|ai @Hj<|ai @DY<|ai @Mm<|ai @L2<|ai @Dh<|ai @Db<|ai @zL<|ai @D5<|ai @AH<|ai @HK<|ai @Mn<|ai @HL<|ai @Dp<|ai @zS<|ai @GI<|ai @Jm<|ai @EK<|ai @Jl<|ai @EI<|ai @Jj<|ai @EJ<|ai @Aw<|ai @DQ<|ai @zM<|ai @wU<|ai @Ax<|ai @Ay<|ai @PA<|ai @Mh<|ai @Py<|ai @HB<|ai @BH<|ai @BI<|ai @LY<|ai @vf<|@aF):=⟨@Hb,@G2,@Dn,@G5,@Mb,@GY,@L9,@L8,@G0,@G4,@Pg,@Md,@Ph,@S0,@Pe,@Pf,@Hj,@DY,@Mm,@L2,@Dh,@Db,@zL,@D5,@AH,@HK,@Mn,@HL,@Dp,@zS,@GI,@Jm,@EK,@Jl,@EI,@Jj,@EJ,@Aw,@DQ,@zM,@wU,@Ax,@Ay,@PA,@Mh,@Py,@HB,@BH,@BI,@LY,@vf,@aF⟩
theorem Wx:type_of% (And.intro (@JL)<|@JO):=⟨@JL,@JO⟩
theorem Ww:type_of% (ai @true_and<|ai @and_true<|ai @Bool.false_eq_true<|ai @List.map_cons.{0,0}<|ai @List.map_nil.{0,0}<|ai @List.drop_succ_cons.{0}<|ai @List.drop_zero.{0}<|ai @List.take_succ_cons.{0}<|ai @List.take_zero.{0}<|ai @List.length_cons.{0}<|ai @List.length_nil.{0}<|ai @List.contains_nil.{0}<|ai @List.nil_append.{0}<|ai @List.cons_append.{0}<|ai @List.append_nil.{0}<|ai @List.getElem?_cons_zero.{0}<|ai @List.getElem?_cons_succ.{0}<|ai @decide_true<|ai @decide_false<|ai @beq_self_eq_true.{0}<|ai @List.isEmpty_nil.{0}<|ai @List.isEmpty_cons.{0}<|ai @Option.map_none.{0,0}<|ai @Option.map_some.{0,0}<|ai @List.all_cons.{0}<|ai @List.all_nil.{0}<|ai @Option.isSome_some.{0}<|ai @Bool.and_true<|ai @Bool.true_and<|ai @Bool.false_and<|ai @Bool.and_self<|ai @Bool.not_true<|ai @Bool.not_false<|ai @and_self<|ai @Nat.zero_add<|ai @Nat.add_zero<|ai @Nat.zero_mul<|ai @Nat.sub_zero<|ai @Nat.zero_le<|ai @Nat.le_refl<|ai @Option.some.injEq.{0}<|ai @Nat.le_zero_eq<|ai @Nat.one_ne_zero<|ai @Bool.or_self<|ai @Bool.or_true<|ai @Bool.true_or<|ai @Bool.or_false<|ai @Bool.false_or<|@List.length_set.{0}):=⟨@true_and,@and_true,@Bool.false_eq_true,@List.map_cons.{0,0},@List.map_nil.{0,0},@List.drop_succ_cons.{0},@List.drop_zero.{0},@List.take_succ_cons.{0},@List.take_zero.{0},@List.length_cons.{0},@List.length_nil.{0},@List.contains_nil.{0},@List.nil_append.{0},@List.cons_append.{0},@List.append_nil.{0},@List.getElem?_cons_zero.{0},@List.getElem?_cons_succ.{0},@decide_true,@decide_false,@beq_self_eq_true.{0},@List.isEmpty_nil.{0},@List.isEmpty_cons.{0},@Option.map_none.{0,0},@Option.map_some.{0,0},@List.all_cons.{0},@List.all_nil.{0},@Option.isSome_some.{0},@Bool.and_true,@Bool.true_and,@Bool.false_and,@Bool.and_self,@Bool.not_true,@Bool.not_false,@and_self,@Nat.zero_add,@Nat.add_zero,@Nat.zero_mul,@Nat.sub_zero,@Nat.zero_le,@Nat.le_refl,@Option.some.injEq.{0},@Nat.le_zero_eq,@Nat.one_ne_zero,@Bool.or_self,@Bool.or_true,@Bool.true_or,@Bool.or_false,@Bool.false_or,@List.length_set.{0}⟩
theorem Ws:type_of% (ai @BR<|ai @BQ<|ai @SY<|ai @C4<|ai @zy<|ai @LI<|ai @Gy<|ai @LJ<|ai @OG<|ai @LG<|ai @LH<|ai @G8<|ai @Ml<|ai @Ei<|ai @Ie<|ai @A1<|@Ig):=⟨@BR,@BQ,@SY,@C4,@zy,@LI,@Gy,@LJ,@OG,@LG,@LH,@G8,@Ml,@Ei,@Ie,@A1,@Ig⟩
theorem WA:type_of% (ai @uv.eq_1<|ai @uv.eq_2<|ai @ev.eq_1<|ai @ev.eq_2<|ai @ev.eq_3<|ai @ev.eq_4<|ai @oN.eq_1<|ai @oN.eq_2<|ai @oN.eq_3<|ai @oN.eq_4<|ai @oN.eq_5<|ai @oN.eq_6<|ai @dP.eq_1<|ai @dP.eq_2<|ai @wM.eq_1<|ai @wM.eq_2<|ai @wM.eq_3<|ai @jc.eq_1<|ai @jc.eq_2<|ai @jc.eq_3<|ai @eD.eq_1<|ai @eD.eq_2<|ai @eD.eq_3<|ai @eD.eq_4<|ai @eD.eq_5<|ai @eD.eq_6<|ai @eD.eq_7<|ai @eD.eq_8<|ai @eD.eq_9<|ai @eD.eq_10<|ai @eD.eq_11<|ai @eD.eq_12<|ai @eD.eq_13<|ai @eD.eq_14<|ai @eD.eq_15<|ai @eD.eq_16<|ai @CT.eq_1<|ai @CT.eq_2<|ai @CT.eq_3<|ai @CT.eq_4<|ai @CT.eq_5<|ai @CT.eq_6<|ai @Sq.eq_1<|ai @a6.eq_1<|ai @a6.eq_2<|ai @de.eq_1<|ai @de.eq_2<|ai @de.eq_3<|ai @cW.eq_1<|ai @cW.eq_2<|ai @cW.eq_3<|ai @live.eq_1<|ai @lz.eq_1<|ai @lz.eq_2<|ai @Ds.nB.eq_1<|ai @Ds.nB.eq_2<|ai @Ds.nB.eq_3<|ai @b7.eq_1<|ai @b7.eq_2<|ai @b7.eq_3<|ai @b7.eq_4<|ai @b7.eq_5<|ai @b7.eq_6<|ai @eU.eq_1<|ai @eU.eq_2<|ai @eU.eq_3<|ai @eU.eq_4<|ai @eU.eq_5<|ai @eU.eq_6<|ai @nc.eq_1<|ai @nc.eq_2<|ai @vB.eq_1<|ai @vB.eq_2<|ai @vB.eq_3<|ai @vB.eq_4<|ai @alive.eq_1<|ai @alive.eq_2<|ai @alive.eq_3<|ai @nm.eq_1<|ai @nm.eq_2<|ai @gD.eq_1<|ai @gD.eq_2<|ai @gD.eq_3<|ai @gD.eq_4<|ai @gD.eq_5<|ai @gD.eq_6<|ai @cp.eq_1<|ai @cp.eq_2<|ai @nU.eq_1<|ai @gV.eq_1<|ai @gV.eq_2<|ai @gV.eq_3<|ai @jT.eq_1<|ai @jT.eq_2<|ai @En.eq_1<|ai @bk.eq_1<|ai @bk.eq_2<|ai @bk.eq_3<|ai @bk.eq_4<|ai @eQ.eq_1<|ai @eQ.eq_2<|ai @eQ.eq_3<|ai @cj.eq_1<|ai @cj.eq_2<|ai @cj.eq_3<|ai @cj.eq_4<|ai @cj.eq_5<|ai @cj.eq_6<|ai @dO.eq_1<|ai @fP.eq_1<|ai @fP.eq_2<|ai @fieldAt.eq_1<|ai @dc.eq_1<|ai @nJ.eq_1<|ai @gB.eq_1<|ai @content.eq_1<|ai @content.eq_2<|ai @content.eq_3<|ai @putCells.eq_1<|ai @Ou.eq_1<|ai @Ou.eq_2<|ai @Ou.eq_3<|ai @Ou.eq_4<|ai @Ki.eq_1<|ai @Ki.eq_2<|ai @Ki.eq_3<|ai @Ki.eq_4<|ai @NB.eq_1<|ai @NB.eq_2<|ai @NB.eq_3<|ai @ew.eq_1<|ai @ew.eq_2<|ai @ew.eq_3<|ai @kindOk.eq_1<|ai @kindOk.eq_2<|ai @kindOk.eq_3<|ai @kindOk.eq_4<|ai @iS.eq_1<|ai @iS.eq_2<|ai @iS.eq_3<|ai @iS.eq_4<|ai @lK.eq_1<|ai @lK.eq_2<|ai @lK.eq_3<|ai @lK.eq_4<|ai @lK.eq_5<|ai @lK.eq_6<|ai @lK.eq_7<|ai @lK.eq_8<|ai @pZ.eq_1<|ai @pZ.eq_2<|ai @pZ.eq_3<|ai @aO.eq_1<|ai @aO.eq_2<|ai @aO.eq_3<|ai @aO.eq_4<|ai @aO.eq_5<|ai @aO.eq_6<|ai @aO.eq_7<|ai @oM.eq_1<|ai @oM.eq_2<|ai @qY.eq_1<|ai @qY.eq_2<|ai @qY.eq_3<|@qY.eq_4):=⟨@uv.eq_1,@uv.eq_2,@ev.eq_1,@ev.eq_2,@ev.eq_3,@ev.eq_4,@oN.eq_1,@oN.eq_2,@oN.eq_3,@oN.eq_4,@oN.eq_5,@oN.eq_6,@dP.eq_1,@dP.eq_2,@wM.eq_1,@wM.eq_2,@wM.eq_3,@jc.eq_1,@jc.eq_2,@jc.eq_3,@eD.eq_1,@eD.eq_2,@eD.eq_3,@eD.eq_4,@eD.eq_5,@eD.eq_6,@eD.eq_7,@eD.eq_8,@eD.eq_9,@eD.eq_10,@eD.eq_11,@eD.eq_12,@eD.eq_13,@eD.eq_14,@eD.eq_15,@eD.eq_16,@CT.eq_1,@CT.eq_2,@CT.eq_3,@CT.eq_4,@CT.eq_5,@CT.eq_6,@Sq.eq_1,@a6.eq_1,@a6.eq_2,@de.eq_1,@de.eq_2,@de.eq_3,@cW.eq_1,@cW.eq_2,@cW.eq_3,@live.eq_1,@lz.eq_1,@lz.eq_2,@Ds.nB.eq_1,@Ds.nB.eq_2,@Ds.nB.eq_3,@b7.eq_1,@b7.eq_2,@b7.eq_3,@b7.eq_4,@b7.eq_5,@b7.eq_6,@eU.eq_1,@eU.eq_2,@eU.eq_3,@eU.eq_4,@eU.eq_5,@eU.eq_6,@nc.eq_1,@nc.eq_2,@vB.eq_1,@vB.eq_2,@vB.eq_3,@vB.eq_4,@alive.eq_1,@alive.eq_2,@alive.eq_3,@nm.eq_1,@nm.eq_2,@gD.eq_1,@gD.eq_2,@gD.eq_3,@gD.eq_4,@gD.eq_5,@gD.eq_6,@cp.eq_1,@cp.eq_2,@nU.eq_1,@gV.eq_1,@gV.eq_2,@gV.eq_3,@jT.eq_1,@jT.eq_2,@En.eq_1,@bk.eq_1,@bk.eq_2,@bk.eq_3,@bk.eq_4,@eQ.eq_1,@eQ.eq_2,@eQ.eq_3,@cj.eq_1,@cj.eq_2,@cj.eq_3,@cj.eq_4,@cj.eq_5,@cj.eq_6,@dO.eq_1,@fP.eq_1,@fP.eq_2,@fieldAt.eq_1,@dc.eq_1,@nJ.eq_1,@gB.eq_1,@content.eq_1,@content.eq_2,@content.eq_3,@putCells.eq_1,@Ou.eq_1,@Ou.eq_2,@Ou.eq_3,@Ou.eq_4,@Ki.eq_1,@Ki.eq_2,@Ki.eq_3,@Ki.eq_4,@NB.eq_1,@NB.eq_2,@NB.eq_3,@ew.eq_1,@ew.eq_2,@ew.eq_3,@kindOk.eq_1,@kindOk.eq_2,@kindOk.eq_3,@kindOk.eq_4,@iS.eq_1,@iS.eq_2,@iS.eq_3,@iS.eq_4,@lK.eq_1,@lK.eq_2,@lK.eq_3,@lK.eq_4,@lK.eq_5,@lK.eq_6,@lK.eq_7,@lK.eq_8,@pZ.eq_1,@pZ.eq_2,@pZ.eq_3,@aO.eq_1,@aO.eq_2,@aO.eq_3,@aO.eq_4,@aO.eq_5,@aO.eq_6,@aO.eq_7,@oM.eq_1,@oM.eq_2,@qY.eq_1,@qY.eq_2,@qY.eq_3,@qY.eq_4⟩
theorem VF:type_of% (ai @De<|ai @Dc<|ai @Dd<|ai @Mj<|ai @Ib<|ai @H2<|ai @H6<|ai @Eg<|ai @HW<|ai @HX<|ai @AR<|ai @HZ<|ai @HY<|ai @D6<|ai @Iq<|ai @Iu<|ai @L0<|ai @zF<|ai @zG<|ai @Df<|ai @Mk<|ai @Ic<|ai @H3<|ai @Eh<|ai @H7<|ai @AY<|ai @H9<|ai @H8<|ai @D9<|ai @L1<|@zH):=⟨@De,@Dc,@Dd,@Mj,@Ib,@H2,@H6,@Eg,@HW,@HX,@AR,@HZ,@HY,@D6,@Iq,@Iu,@L0,@zF,@zG,@Df,@Mk,@Ic,@H3,@Eh,@H7,@AY,@H9,@H8,@D9,@L1,@zH⟩
section
variable {T:Nat→Option Ty} {Γ:Env} {N F e:Nat} {Q Q':Kt} {t:Nat→D} {h:Nat→Option Row}
theorem fH (hm:∀x t h e,Q x t h e→Q' x t h e):∀(ws:List W) (x:Ex) (t:Nat→D) (h:Nat→Option Row) (e:Nat),cF T Γ N F ws Q x t h e→cF T Γ N F ws Q' x t h e
 | [],x,t,h,e,hk=>hm _ _ _ _ hk
 | .code c::ws,x,t,h,e,hk=>by
  unfold cF at hk ⊢
  cases x with
  | normal=>exact Oq c t h e _ _ hk (fun x t h e hx=>fH hm ws x t h e hx)
  | exit n=>exact fH hm ws _ t h e hk
  | ret=>exact fH hm ws _ t h e hk
 | .blk id::ws,x,t,h,e,hk=>by
  unfold cF OT at hk ⊢
  cases x with
  | normal=>exact fH hm ws _ t h e hk
  | exit n =>
   simp only at hk ⊢
   split at hk
   ·rename_i hn;rw[if_pos hn];exact fH hm ws _ t h e hk
   ·rename_i hn;rw[if_neg hn];exact fH hm ws _ t h e hk
  | ret=>exact fH hm ws _ t h e hk
theorem nr:∀(ws:List W) (k:Nat),cF T Γ N F ws Q=cF T Γ N F (ws.take k) (cF T Γ N F (ws.drop k) Q)
 | ws,0=>by simp[cF]
 | [],k+1=>by simp[cF]
 | .code c::ws,k+1=>by
  rw[List.take_succ_cons,List.drop_succ_cons]
  funext x t h e
  unfold cF
  rw[nr ws k]
 | .blk id::ws,k+1=>by
  rw[List.take_succ_cons,List.drop_succ_cons]
  funext x t h e
  unfold cF
  rw[nr ws k]
variable {σ:Type} {ops l:List Oper} {ws:List W} {dst:Option Nat} {fs:List jH} {d:D} {g:Nat}
theorem qf {J:σ→(Nat→D)→(Nat→Option Row)→Nat→Prop} {P:σ→Prop} {R:Kt} (hrest:∀s t h e,J s t h e→P s→R .normal t h e):∀x t h e,CK J P R x t h e→R x t h e:=by
 intro x t h e hx
 cases x with
 | normal=>obtain⟨s,h1,h2⟩:=hx;exact hrest s t h e h2 h1
 | exit n=>exact hx
 | ret=>exact hx
theorem sT (hm:∀x t h e,Q x t h e→Q' x t h e) (hk:kb T Γ N F ops l ws Q t h e):kb T Γ N F ops l ws Q' t h e:=sV (fun t h hh=>fH hm ws _ _ _ _ hh) _ _ _ hk
theorem sU (hm:∀x t h e,Q x t h e→Q' x t h e) (hk:kc T Γ N F ops l ws Q t h e fs):kc T Γ N F ops l ws Q' t h e fs:=sS (fun t h fs hh=>⟨hh.1,fH hm ws _ _ _ _ hh.2⟩) _ _ _ _ hk
theorem pW (k:Nat):kb T Γ N F ops l ws Q t h e=kb T Γ N F ops l (ws.take k) (cF T Γ N F (ws.drop k) Q) t h e:=by unfold kb;rw[nr ws k]
theorem pX (k:Nat):kc T Γ N F ops l ws Q t h e fs=kc T Γ N F ops l (ws.take k) (cF T Γ N F (ws.drop k) Q) t h e fs:=by unfold kc;rw[nr ws k]
theorem DA (k:Nat) {o:Oper} : nH T Γ N F o ops l ws Q t h e=nH T Γ N F o ops l (ws.take k) (cF T Γ N F (ws.drop k) Q) t h e:=by
 unfold nH
 congr 1
 funext t E
 rw[pW k]
theorem DI (k:Nat) {o:Oper} : nI T Γ N F o ops l ws Q t h e fs=nI T Γ N F o ops l (ws.take k) (cF T Γ N F (ws.drop k) Q) t h e fs:=by
 unfold nI
 congr 1
 funext t E
 rw[pX k]
theorem Hm {o:Oper} (hm:∀x t h e,Q x t h e→Q' x t h e) (hk:nH T Γ N F o ops l ws Q t h e):nH T Γ N F o ops l ws Q' t h e:=wk hk fun _ _ hh=>sT hm hh
theorem Hs {o:Oper} (hm:∀x t h e,Q x t h e→Q' x t h e) (hk:nI T Γ N F o ops l ws Q t h e fs):nI T Γ N F o ops l ws Q' t h e fs:=wk hk fun _ _ hh=>sU hm hh
variable (k:Nat) (J:σ→(Nat→D)→(Nat→Option Row)→Nat→Prop) (P:σ→Prop)
theorem lM {x y:Code} (hrest:∀s t h e,J s t h e→P s→cF T Γ N F (ws.drop k) Q .normal t h e) (hc:Gs T Γ N F d g x y (ws.take k) (CK J P (cF T Γ N F (ws.drop k) Q)) t h e):Gs T Γ N F d g x y ws Q t h e:=by
 unfold Gs at hc ⊢
 have e1:∀c:Code,cF T Γ N F (.code c::ws) Q=cF T Γ N F (.code c::ws.take k) (cF T Γ N F (ws.drop k) Q):=fun c=>nr (.code c::ws) (k+1)
 rw[e1,e1]
 exact wg hc (fun _ hh=>fH (qf hrest) _ _ _ _ _ hh) (fun _ hh=>fH (qf hrest) _ _ _ _ _ hh)
theorem bG {want:Bool} {o:Oper} (hrest:∀s t h e,J s t h e→P s→cF T Γ N F (ws.drop k) Q .normal t h e) (hc:ti T Γ N F d g want o ops l (ws.take k) (CK J P (cF T Γ N F (ws.drop k) Q)) t h e):ti T Γ N F d g want o ops l ws Q t h e:=by
 unfold ti at hc ⊢
 refine B9 hc (fun t hh =>?_) (fun t hh =>?_) (fun t hh =>?_)
 ·cases want
  ·simp only[Bool.false_eq_true,if_false]at hh ⊢;rw[pW k];exact sT (qf hrest) hh
  ·simp only[if_true]at hh ⊢;rw[DA k];exact Hm (qf hrest) hh
 ·cases want
  ·simp only[Bool.false_eq_true,if_false]at hh ⊢;rw[DA k];exact Hm (qf hrest) hh
  ·simp only[if_true]at hh ⊢;rw[pW k];exact sT (qf hrest) hh
 ·rw[pW k];exact sT (qf hrest) hh
theorem JN {want:Bool} {o:Oper} (hrest:∀s t h e,J s t h e→P s→cF T Γ N F (ws.drop k) Q .normal t h e) (hc:tj T Γ N F d g want o ops l (ws.take k) (CK J P (cF T Γ N F (ws.drop k) Q)) t h e fs):tj T Γ N F d g want o ops l ws Q t h e fs:=by
 unfold tj at hc ⊢
 refine B9 hc (fun t hh =>?_) (fun t hh =>?_) (fun t hh =>?_)
 ·cases want
  ·simp only[Bool.false_eq_true,if_false]at hh ⊢;rw[pX k];exact sU (qf hrest) hh
  ·simp only[if_true]at hh ⊢;rw[DI k];exact Hs (qf hrest) hh
 ·cases want
  ·simp only[Bool.false_eq_true,if_false]at hh ⊢;rw[DI k];exact Hs (qf hrest) hh
  ·simp only[if_true]at hh ⊢;rw[pX k];exact sU (qf hrest) hh
 ·rw[pX k];exact sU (qf hrest) hh
end
noncomputable def Ow {α β γ:Type} (ty:Nat) (E:kj γ) (A:lO α) (F:List γ→α→Option (List γ×β)) (R:β→RK):Option (D×Row)→List D→Option (RK×Option Row):=fun lent ds =>
 match lent with
 | some (.buf 0 0 s o n,⟨0,ty',cells,false,true,false⟩)=>open Classical in
  if h:ty'=ty∧s=E.size∧∃p:List D×List γ×List D×α,cells=p.1++(ab E p.2.1++p.2.2.1)∧o=p.1.length∧n=p.2.1.length∧ds=A.ds p.2.2.2 then
   (F (Classical.choose h.2.2).2.1 (Classical.choose h.2.2).2.2.2).map fun r=>(R r.2,some ⟨0,ty,(Classical.choose h.2.2).1++(ab E r.1++(Classical.choose h.2.2).2.2.1),false,true,false⟩)
  else none
 | _=>none
theorem Nk {γ:Type} {E:kj γ} {p p' q q':List D} {l l':List γ} (h:p++(ab E l++q)=p'++(ab E l'++q')) (hp:p.length=p'.length) (hl:l.length=l'.length):p=p'∧l=l'∧q=q':=by
 obtain⟨h1,h2⟩:=List.append_inj h hp
 obtain⟨h3,h4⟩:=List.append_inj h2 (by rw[cq,cq,hl])
 exact⟨h1,rA E _ _ h3,h4⟩
theorem Bb {α β γ:Type} (ty:Nat) (E:kj γ) (A:lO α) (F:List γ→α→Option (List γ×β)) (R:β→RK) (pre post:List D) (l:List γ) (a:α) :
  Ow ty E A F R (some (.buf 0 0 E.size pre.length l.length,⟨0,ty,pre++(ab E l++post),false,true,false⟩)) (A.ds a)=(F l a).map fun r=>(R r.2,some ⟨0,ty,pre++(ab E r.1++post),false,true,false⟩):=by
 have h:ty=ty∧E.size=E.size∧∃p:List D×List γ×List D×α,pre++(ab E l++post)=p.1++(ab E p.2.1++p.2.2.1)∧pre.length=p.1.length∧l.length=p.2.1.length∧A.ds a=A.ds p.2.2.2:=⟨rfl,rfl,(pre,l,post,a),rfl,rfl,rfl,rfl⟩
 simp only[Ow]
 rw[dif_pos h]
 obtain⟨h1,h2,h3,h4⟩:=Classical.choose_spec h.2.2
 obtain⟨e1,e2,e3⟩:=Nk h1 h2 h3
 rw[← A.inj _ _ h4,← e1,← e2,← e3]
theorem IV {α β γ:Type} {ty:Nat} {E:kj γ} {A:lO α} {F:List γ→α→Option (List γ×β)} {R:β→RK} {lent:Option (D×Row)} {ds:List D} {rk:RK} {out:Option Row} (h:Ow ty E A F R lent ds=some (rk,out)) :
  ∃pre l post a l' r,lent=some (.buf 0 0 E.size pre.length l.length,⟨0,ty,pre++(ab E l++post),false,true,false⟩)∧ds=A.ds a∧F l a=some (l',r)∧rk=R r∧out=some ⟨0,ty,pre++(ab E l'++post),false,true,false⟩:=by
 unfold Ow at h
 split at h
 ·split at h
  ·rename_i he
   obtain⟨rfl,rfl,he⟩:=he
   rw[Option.map_eq_some_iff]at h
   obtain⟨⟨l',r⟩,h1,h2⟩:=h
   simp only[Prod.mk.injEq]at h2
   obtain⟨rfl,rfl⟩:=h2
   obtain⟨g1,g2,g3,g4⟩:=Classical.choose_spec he
   refine⟨_,_,_,_,l',r,?_,g4,h1,rfl,rfl⟩
   rw[← g1,← g2,← g3]
  ·cases h
 ·cases h
theorem bI.Mu {P:Program} {T:Nat→Option Ty} {Γ:Env} (hT:km P T) (hΓ:bM P Γ) (hm:P.follows .mixedOrders=true) {α β γ:Type} {ty:Nat} {E:kj γ} {A:lO α} {F:List γ→α→Option (List γ×β)} {R:β→RK} {mode:Mode} {f:FuncId} {fn:Func} (hf:P.funcs[f]? = some fn) (hok:(match fn.body with|some c=>codeOk c|none=>true)=true)
  (hc:(fn.name == "runtime.NumGoroutine")=false∧fn.body.isNone=false) (hn:∀a,(A.ds a).length+1≤fn.ntmps)
  (h:∀pre post l a l' r,F l a=some (l',r)→aQ mode T Γ FU fn (some (.buf 0 0 E.size pre.length l.length,⟨0,ty,pre++(ab E l++post),false,true,false⟩)) (A.ds a)=some (R r,some ⟨0,ty,pre++(ab E l'++post),false,true,false⟩)):bI P f (Ow ty E A F R) where
 calls lent WH rk out hg:=by
  obtain⟨pre,l,post,a,l',r,rfl,rfl,hr,rfl,rfl⟩:=IV hg
  exact jD hT hΓ hm hf hok (hn a) rfl (h pre post l a l' r hr)
 callable:=⟨fn,hf,hc⟩
noncomputable def Tq {α γ:Type} (ty:Nat) (E:kj γ) (A:lO α) (F:List γ→α→Option (List γ)):Option (D×Row)→List D→Option (RK×Option Row):=fun lent ds =>
 match lent with
 | some (.buf 0 0 s o n,⟨0,ty',cells,false,true,false⟩)=>open Classical in
  if h:ty'=ty∧s=E.size∧∃p:List D×List γ×List D×α,cells=p.1++(ab E p.2.1++p.2.2.1)∧o=p.1.length∧n=p.2.1.length∧ds=A.ds p.2.2.2 then
   (F (Classical.choose h.2.2).2.1 (Classical.choose h.2.2).2.2.2).map fun r=>(.fresh ty E.size r.length (ab E r),none)
  else none
 | _=>none
theorem Qd {α γ:Type} (ty:Nat) (E:kj γ) (A:lO α) (F:List γ→α→Option (List γ)) (pre post:List D) (l:List γ) (a:α) :
  Tq ty E A F (some (.buf 0 0 E.size pre.length l.length,⟨0,ty,pre++(ab E l++post),false,true,false⟩)) (A.ds a)=(F l a).map fun r=>(.fresh ty E.size r.length (ab E r),none):=by
 have h:ty=ty∧E.size=E.size∧∃p:List D×List γ×List D×α,pre++(ab E l++post)=p.1++(ab E p.2.1++p.2.2.1)∧pre.length=p.1.length∧l.length=p.2.1.length∧A.ds a=A.ds p.2.2.2:=⟨rfl,rfl,(pre,l,post,a),rfl,rfl,rfl,rfl⟩
 simp only[Tq]
 rw[dif_pos h]
 obtain⟨h1,h2,h3,h4⟩:=Classical.choose_spec h.2.2
 obtain⟨e1,e2,e3⟩:=Nk h1 h2 h3
 rw[← A.inj _ _ h4,← e2]
theorem IT {α γ:Type} {ty:Nat} {E:kj γ} {A:lO α} {F:List γ→α→Option (List γ)} {lent:Option (D×Row)} {ds:List D} {rk:RK} {out:Option Row} (h:Tq ty E A F lent ds=some (rk,out)) :
  ∃pre l post a r,lent=some (.buf 0 0 E.size pre.length l.length,⟨0,ty,pre++(ab E l++post),false,true,false⟩)∧ds=A.ds a∧F l a=some r∧rk=.fresh ty E.size r.length (ab E r)∧out=none:=by
 unfold Tq at h
 split at h
 ·split at h
  ·rename_i he
   obtain⟨rfl,rfl,he⟩:=he
   rw[Option.map_eq_some_iff]at h
   obtain⟨r,h1,h2⟩:=h
   simp only[Prod.mk.injEq]at h2
   obtain⟨rfl,rfl⟩:=h2
   obtain⟨g1,g2,g3,g4⟩:=Classical.choose_spec he
   refine⟨(Classical.choose he).1,(Classical.choose he).2.1,(Classical.choose he).2.2.1,(Classical.choose he).2.2.2,r,?_,g4,h1,rfl,rfl⟩
   rw[← g1,← g2,← g3]
  ·cases h
 ·cases h
theorem bI.UP {P:Program} {T:Nat→Option Ty} {Γ:Env} (hT:km P T) (hΓ:bM P Γ) (hm:P.follows .mixedOrders=true) {α γ:Type} {ty:Nat} {E:kj γ} {A:lO α} {F:List γ→α→Option (List γ)} {f:FuncId} {fn:Func} (hf:P.funcs[f]? = some fn) (hok:(match fn.body with|some c=>codeOk c|none=>true)=true)
  (hc:(fn.name == "runtime.NumGoroutine")=false∧fn.body.isNone=false) (hn:∀a,(A.ds a).length+1≤fn.ntmps)
  (h:∀pre post l a r,F l a=some r→aQ (.fresh ty E.size) T Γ FU fn (some (.buf 0 0 E.size pre.length l.length,⟨0,ty,pre++(ab E l++post),false,true,false⟩)) (A.ds a)=some (.fresh ty E.size r.length (ab E r),none)):bI P f (Tq ty E A F) where
 calls lent WH rk out hg:=by
  obtain⟨pre,l,post,a,r,rfl,rfl,hr,rfl,rfl⟩:=IT hg
  exact jD hT hΓ hm hf hok (hn a) rfl (h pre post l a r hr)
 callable:=⟨fn,hf,hc⟩
theorem bI.zero {P:Program} {f:FuncId} {fn:Func} (hf:P.funcs[f]? = some fn) (hc:(fn.name == "runtime.NumGoroutine")=false∧fn.body.isNone=false) {α β:Type} {A:lO α} {F:α→Option β} {R:β→RK} (h0:∀a,F a=none):bI P f (ez A F R) where
 calls lent WH rk out hg:=by
  obtain⟨rfl,rfl,a,r,rfl,hr,rfl⟩:=oL hg
  rw[h0]at hr
  cases hr
 callable:=⟨fn,hf,hc⟩
section
variable {h:Nat→Option Row} {Γ:Env} {g e x v d:Nat} {dst:Option Nat} {fr:List Nat} {WH rest:List D} {d0:D} {T:Nat→Option Ty} {rs:List ResultVar}
def GK (h:Nat→Option Row) (e:Nat) (dst:Option Nat) (x v:Nat) (fr:List Nat):Option (RK×Option Row)→Option dj
 | some (.clean c,some r1)=>some ⟨c,gO h fr++[(x,some { r1 with v:=v })]⟩
 | some (.same s o n,some r1)=>some ⟨.buf x v s o n,gO h fr++[(x,some { r1 with v:=v })]⟩
 | some (.fresh ty s n cells,none) =>
  match dst with
  | some d=>if fr.contains d=false then some ⟨.buf d e s 0 n,gO h fr++[(x,none),(d,some ⟨e,ty,cells,false,true,false⟩)]⟩ else none
  | none=>none
 | _=>none
def OY (Γ:Env) (h:Nat→Option Row) (e:Nat) (dst:Option Nat) (g x v:Nat) (d0:D) (r:Row):Option (List D×List Nat)→Option dj
 | some (WH,fr)=>if fr.contains x=false then GK h e dst x v fr (Γ.sem g (some (d0,r)) WH) else none
 | none=>none
def OX (Γ:Env) (h:Nat→Option Row) (e:Nat) (dst:Option Nat) (g x v:Nat) (d0:D) (rest:List D):Option Row→Option dj
 | some r=>if r.fz=false then OY Γ h e dst g x v d0 { r with v:=0 } (bU h rest) else none
 | none=>none
theorem GL {s o n:Nat} : Cc true Γ h e dst g (.buf x v s o n::rest)=OX Γ h e dst g x v (.buf 0 0 s o n) rest (live h x v):=by
 simp only[Cc,if_true,qk]
 cases live h x v with
 | none=>rfl
 | some r =>
  simp only[OX]
  cases bU h rest with
  | none=>rfl
  | some p=>rfl
theorem zI {r:Row} : OX Γ h e dst g x v d0 rest (some r)=if r.fz=false then OY Γ h e dst g x v d0 { r with v:=0 } (bU h rest) else none:=Eq.trans rfl rfl
theorem zJ {r:Row} : OY Γ h e dst g x v d0 r (some (WH,fr))=if fr.contains x=false then GK h e dst x v fr (Γ.sem g (some (d0,r)) WH) else none:=Eq.trans rfl rfl
theorem xv {c:D} {v' ty:Nat} {cells:List D} {fz lst:Bool} : GK h e dst x v fr (some (.clean c,some ⟨v',ty,cells,fz,lst,false⟩))=some ⟨c,gO h fr++[(x,some ⟨v,ty,cells,fz,lst,false⟩)]⟩:=Eq.trans rfl rfl
theorem zK {s o n v' ty:Nat} {cells:List D} {fz lst:Bool} : GK h e dst x v fr (some (.same s o n,some ⟨v',ty,cells,fz,lst,false⟩))=some ⟨.buf x v s o n,gO h fr++[(x,some ⟨v,ty,cells,fz,lst,false⟩)]⟩:=Eq.trans rfl rfl
theorem xw {s n ty:Nat} {cells:List D} : GK h e (some d) x v fr (some (.fresh ty s n cells,none))=if fr.contains d=false then some ⟨.buf d e s 0 n,gO h fr++[(x,none),(d,some ⟨e,ty,cells,false,true,false⟩)]⟩ else none:=Eq.trans rfl rfl
theorem xT {ty sz i:Nat} {t:Nat→D} {l:D×Row} : fw (.fresh ty sz) T (some l) [.tmp i] ⟨t,h,e⟩=ky ty sz h (t i):=Eq.trans rfl rfl
def UH (y v s o:Nat):Option Row→Option Ty→Option (Nat×Nat)→Option dj
 | some _,some φ,some (l,k)=>if φ.size=s∧0<s then some ⟨.buf y v s (o+l*s) (k-l),[]⟩ else none
 | _,_,_=>none
theorem DU {y v s o l k:Nat} {r:Row} {φ:Ty} : UH y v s o (some r) (some φ) (some (l,k))=if φ.size=s∧0<s then some ⟨.buf y v s (o+l*s) (k-l),[]⟩ else none:=Eq.trans rfl rfl
theorem Mi {el b c y v s o n:Nat} {z:List Value} {q:Bool} {lo hi:Option D} : cj T ⟨.slice el,b,c,z,q⟩ h (.buf y v s o n) lo hi none=UH y v s o (live h y v) (T el) (qY n lo hi):=by
 simp only[cj]
 cases live h y v with
 | none=>rfl
 | some r =>
  simp only
  cases T el with
  | none=>rfl
  | some φ =>
   cases qY n lo hi with
   | none=>rfl
   | some p=>rfl
def TW (ty:Nat):Option (List D×List Nat)→Option Row→Option (RK×Option Row)
 | some (ds,fr),some r=>if r.v=0∧r.fz=false∧r.ty=ty∧r.mp=false∧fr.contains 0=false then some (.clean (oA ds),some r) else none
 | _,_=>none
theorem DR {ty:Nat} {ds:List D} {r:Row} : TW ty (some (ds,fr)) (some r)=if r.v=0∧r.fz=false∧r.ty=ty∧r.mp=false∧fr.contains 0=false then some (.clean (oA ds),some r) else none:=Eq.trans rfl rfl
theorem DS {t:Nat→D} {ty v:Nat} {cells:List D} {fz lst:Bool} : fw .clean T (some (d0,⟨v,ty,cells,fz,lst,false⟩)) rs ⟨t,h,e⟩=TW ty (uC T ⟨t,h,e⟩ rs) (h 0):=by
 simp only[fw,rB,jX,Sv,TW]
 cases uC T ⟨t,h,e⟩ rs with
 | none=>rfl
 | some p =>
  obtain⟨ds,fr⟩:=p
  cases h 0 with
  | none=>rfl
  | some r =>
   simp only
   by_cases h1:r.v=0∧r.fz=false∧r.ty=ty∧r.mp=false
   ·rw[if_pos h1]
    simp only[Bool.not_eq_true']
    by_cases h2:fr.contains 0=false
    ·rw[if_pos h2,if_pos ⟨h1.1,h1.2.1,h1.2.2.1,h1.2.2.2,h2⟩]
    ·rw[if_neg h2,if_neg (fun hh=>h2 hh.2.2.2.2)]
   ·rw[if_neg h1,if_neg (fun hh=>h1 ⟨hh.1,hh.2.1,hh.2.2.1,hh.2.2.2.1⟩)]
def Se (ty:Nat):D→Option Row→Option (RK×Option Row)
 | .buf 0 0 s o n,some r=>if r.v=0∧r.fz=false∧r.ty=ty∧r.mp=false then some (.same s o n,some r) else none
 | _,_=>none
theorem HD {ty s o n:Nat} {r:Row} : Se ty (.buf 0 0 s o n) (some r)=if r.v=0∧r.fz=false∧r.ty=ty∧r.mp=false then some (.same s o n,some r) else none:=Eq.trans rfl rfl
theorem DT {t:Nat→D} {ty v i:Nat} {cells:List D} {fz lst:Bool} : fw .same T (some (d0,⟨v,ty,cells,fz,lst,false⟩)) [.tmp i] ⟨t,h,e⟩=Se ty (t i) (h 0):=by
 simp only[fw,za,jX]
 generalize t i=q
 cases q with
 | buf a b s o n =>
  cases h 0 with
  | none=>rcases a with _|a<;>rcases b with _|b<;>rfl
  | some r =>
   simp only
   by_cases h1:r.v=0∧r.fz=false∧r.ty=ty∧r.mp=false
   ·rcases a with _|a<;>rcases b with _|b<;>simp[Se,h1]
   ·rcases a with _|a<;>rcases b with _|b<;>simp[Se,h1]
 | _=>rfl
end
section
variable {α:Type} (E:kj α) {l m u x:List α} {y y':α} {i a b:Int} {pre post:List D}
theorem SQ (h:yY l a b=some x):ab E (l.take a.toNat)++(ab E x++ab E (l.drop b.toNat))=ab E l:=by
 unfold yY at h
 split at h
 ·rename_i hc
  cases h
  rw[← fc,← fc]
  congr 1
  have e:l.drop b.toNat=(l.drop a.toNat).drop (b.toNat-a.toNat):=by rw[List.drop_drop];congr 1;omega
  rw[e,List.take_append_drop,List.take_append_drop]
 ·cases h
theorem SR (h:yY l a b=some x):(ab E (l.take a.toNat)).length=a.toNat*E.size:=by
 unfold yY at h
 split at h
 ·rw[cq,List.length_take,Nat.min_eq_left (by omega)]
 ·cases h
theorem TC (h:yY l a b=some x):x.length=b.toNat-a.toNat:=by
 unfold yY at h
 split at h
 ·cases h
  simp
  omega
 ·cases h
theorem SP:ab E (l.take i.toNat)++(ab E u++ab E (l.drop b.toNat))=ab E (l.take i.toNat++(u++l.drop b.toNat)):=by rw[fc,fc]
theorem PT (h:P.idx l i=some y):(pre++(ab E l++post)).drop (pre.length+i.toNat*E.size)=E.cells y++(ab E (l.drop (i.toNat+1))++post):=by
 rw[← List.drop_drop,List.drop_left,List.drop_append_of_le_length (by rw[cq];have:=sL E h;omega),vx E h,List.append_assoc]
theorem PU (h:P.idx l i=some y):pre.length+i.toNat*E.size+E.size≤(pre++(ab E l++post)).length:=by
 have:=sL E h
 rw[List.length_append,List.length_append,cq]
 omega
theorem rJ (h:P.idx l i=some y):(0≤i∧i<l.length)∧(pre++(ab E l++post)).drop (pre.length+i.toNat*E.size)=E.cells y++(ab E (l.drop (i.toNat+1))++post)∧pre.length+i.toNat*E.size+E.size≤(pre++(ab E l++post)).length:=⟨AV h,PT E h,PU E h⟩
theorem vK (h:P.idx l i=some y):putCells (pre++(ab E l++post)) (pre.length+i.toNat*E.size) (E.cells y')=pre++(ab E (l.set i.toNat y')++post):=by
 have h1:=Qs E (x':=y') h
 have hf:=sL E h
 have hl:=cq E l
 unfold putCells at h1 ⊢
 rw[← h1,E.len]
 have e1:(pre++(ab E l++post)).take (pre.length+i.toNat*E.size)=pre++(ab E l).take (i.toNat*E.size):=by
  rw[List.take_append,List.take_of_length_le (by omega),Nat.add_sub_cancel_left,List.take_append_of_le_length (by omega)]
 have e2:(pre++(ab E l++post)).drop (pre.length+i.toNat*E.size+E.size)=(ab E l).drop (i.toNat*E.size+E.size)++post:=by
  rw[Nat.add_assoc,List.drop_append,List.drop_eq_nil_of_le (by omega),Nat.add_sub_cancel_left,List.nil_append,List.drop_append_of_le_length (by omega)]
 rw[e1,e2]
 simp only[List.append_assoc]
theorem RE (h:yY l a b=some x) (hu:u.length=x.length):(l.take a.toNat++(u++l.drop b.toNat)).length=l.length:=by
 have hn:=TC h
 unfold yY at h
 split at h
 ·simp only[List.length_append,List.length_take,List.length_drop]
  omega
 ·cases h
theorem SG (h:yY l 0 b=some x):pre.length+x.length*E.size≤(pre++(ab E l++post)).length∧((pre++(ab E l++post)).drop pre.length).take (x.length*E.size)=ab E x:=by
 obtain⟨h1,h2,h3,h4,h5⟩:=uD E h
 have:=Nat.mul_le_mul_right E.size h3
 refine⟨by rw[List.length_append,List.length_append,cq];omega,?_⟩
 rw[List.drop_left,List.take_append_of_le_length (by rw[cq];exact this),h5]
end
section
variable {h:Nat→Option Row} {Γ:Env} {e:Nat} {dst:Option Nat}
def Wk:Option (D×List Nat)→Option (List D×List Nat)→Option (List D×List Nat)
 | some (d,fr),some (ds,fr')=>some (d::ds,fr++fr')
 | _,_=>none
theorem GJ {d:D} {ds:List D} {fr fr':List Nat} : Wk (some (d,fr)) (some (ds,fr'))=some (d::ds,fr++fr'):=Eq.trans rfl rfl
theorem GX:cv h []=some ([],[]):=Eq.trans rfl rfl
theorem Dm {d:D} {ds:List D} : cv h (d::ds)=Wk (aG h d) (cv h ds):=by
 simp only[cv]
 cases aG h d with
 | none=>rfl
 | some x=>cases cv h ds<;>rfl
theorem L4 {k:IntKind} {n:Int} : aG h (.int k n)=some (.int k n,[]):=Eq.trans rfl rfl
theorem GW {b:Bool} : aG h (.bool b)=some (.bool b,[]):=Eq.trans rfl rfl
theorem L7 {b:ByteArray} : aG h (.str b)=some (.str b,[]):=Eq.trans rfl rfl
theorem O5 {a b:Bool} {n:Nat} {xs:List D} : aG h (.sl a b n xs)=some (.sl false false n xs,[]):=Eq.trans rfl rfl
theorem L3 {xs:List D} : aG h (.agg xs)=some (.agg (xs.map canon),[]):=Eq.trans rfl rfl
theorem O1 {f:Nat} : aG h (.fn f)=some (.fn f,[]):=Eq.trans rfl rfl
def Wl (f k:Nat):Option (List D×List Nat)→Option (D×List Nat)
 | some (ys,fr)=>some (.clo f k ys,fr)
 | none=>none
theorem G7 {f k:Nat} {ys:List D} {fr:List Nat} : Wl f k (some (ys,fr))=some (.clo f k ys,fr):=Eq.trans rfl rfl
theorem G1 {f k:Nat} {xs:List D} : bD h (.clo f k xs)=Wl f k (cv h xs):=by
 simp only[bD]
 cases cv h xs<;>rfl
theorem GS {g k:Nat} {caps args:List D} : fB Γ h e dst (.clo g k caps) args=if caps.all gP then Cc false Γ h e dst g (caps.take k++(args++caps.drop k)) else none:=by
 simp only[fB,Cc,Bool.false_eq_true,if_false]
theorem MD {k:IntKind} {n:Int} : gP (.int k n)=true:=Eq.trans rfl rfl
theorem Jc {b:Bool} : gP (.bool b)=true:=Eq.trans rfl rfl
theorem MG {b:ByteArray} : gP (.str b)=true:=Eq.trans rfl rfl
theorem Qk {a b:Bool} {n:Nat} {xs:List D} : gP (.sl a b n xs)=true:=Eq.trans rfl rfl
theorem MC {xs:List D} : gP (.agg xs)=true:=Eq.trans rfl rfl
theorem Qg {f:Nat} : gP (.fn f)=true:=Eq.trans rfl rfl
end
theorem BG:oA []=.tup []:=Eq.trans rfl rfl
def Wj (f:Nat):Arg Unit:=⟨fun _ =>.fn f,fun _ _ _=>rfl⟩
def OE {α:Type} (f k:Nat) (a:lO α):Arg α:=⟨fun x =>.clo f k (a.ds x),fun x y h=>a.inj _ _ (by simpa using h)⟩
theorem Wu:type_of% (ai @GJ<|ai @GX<|ai @Dm<|ai @L4<|ai @GW<|ai @L7<|ai @O5<|ai @L3<|ai @O1<|ai @G7<|ai @G1<|ai @GS<|ai @MD<|ai @Jc<|ai @MG<|ai @Qk<|ai @MC<|ai @Qg<|ai @BG<|ai @uX<|ai @uZ<|@y7):=⟨@GJ,@GX,@Dm,@L4,@GW,@L7,@O5,@L3,@O1,@G7,@G1,@GS,@MD,@Jc,@MG,@Qk,@MC,@Qg,@BG,@uX,@uZ,@y7⟩
theorem Wt:type_of% (ai @Jn<|ai @List.contains_cons.{0}<|ai @Mi<|ai @DU<|ai @xw<|ai @xT<|ai @GL<|ai @zI<|ai @zJ<|ai @xv<|ai @zK<|ai @DR<|ai @DS<|ai @HD<|@DT):=⟨@Jn,@List.contains_cons.{0},@Mi,@DU,@xw,@xT,@GL,@zI,@zJ,@xv,@zK,@DR,@DS,@HD,@DT⟩
section
variable {T:Nat→Option Ty} {h:Nat→Option Row} {τ:Ty} {q:Nat→Bool}
theorem P6 {x v o:Nat} : lv τ h (.ptr x v o)=mW τ h x v o (live h x v):=Eq.trans rfl rfl
theorem S9 {xs:List D} : lv τ h (.ip xs)=cW τ h (.ip xs):=Eq.trans rfl rfl
theorem S7 {x v o v' ty:Nat} {c:List D} {fz:Bool} : mW τ h x v o (some ⟨v',ty,c,fz,true,false⟩)=cW τ h (.ptr x v o):=by
 simp only[mW,Bool.not_true,Bool.and_false,Bool.false_eq_true,if_false]
theorem S8 {x v o v' ty:Nat} {c:List D} {lst:Bool} : mW τ h x v o (some ⟨v',ty,c,false,lst,false⟩)=cW τ h (.ptr x v o):=by
 simp only[mW,Bool.false_and,Bool.false_eq_true,if_false]
def V4:Option D→Option dj→Option dj
 | some d,_=>some ⟨d,[]⟩
 | none,E=>E
theorem Ik {d:D} {E:Option dj} : V4 (some d) E=some ⟨d,[]⟩:=Eq.trans rfl rfl
theorem Ij {E:Option dj} : V4 none E=E:=Eq.trans rfl rfl
theorem S6 {x v o v' ty:Nat} {c:List D} : mW τ h x v o (some ⟨v',ty,c,true,false,false⟩)=if o+τ.size≤c.length then V4 (J5 τ.ds.nB ((c.drop o).take τ.size)) (cW τ h (.ptr x v o)) else none:=by
 simp only[mW,Bool.not_false,Bool.and_self,if_true]
 cases J5 τ.ds.nB ((c.drop o).take τ.size)<;>rfl
theorem OL {x v s o n:Nat} : J5 true [.ali x v s o n]=some (.box1 x v s o n):=Eq.trans rfl rfl
theorem OK {x v s o n:Nat} : J5 false [.ali x v s o n]=some (.buf x v s o n):=Eq.trans rfl rfl
theorem MU {p:D} {k:IntKind} {n:Int} : cD τ h p (.int k n)=cp τ h p (.int k n):=Eq.trans rfl rfl
theorem JJ {p:D} {b:Bool} : cD τ h p (.bool b)=cp τ h p (.bool b):=Eq.trans rfl rfl
theorem MW {p:D} {b:ByteArray} : cD τ h p (.str b)=cp τ h p (.str b):=Eq.trans rfl rfl
theorem QR {p:D} {a b:Bool} {n:Nat} {xs:List D} : cD τ h p (.sl a b n xs)=cp τ h p (.sl a b n xs):=Eq.trans rfl rfl
theorem MV {p:D} {x v o:Nat} : cD τ h p (.ptr x v o)=cp τ h p (.ptr x v o):=Eq.trans rfl rfl
theorem QO {p:D} {xs:List D} : cD τ h p (.ip xs)=cp τ h p (.ip xs):=Eq.trans rfl rfl
theorem MS {p:D} {x v s o n:Nat} : cD τ h p (.buf x v s o n)=cp τ h p (.buf x v s o n):=Eq.trans rfl rfl
theorem MQ {p:D} {xs:List D} : cD τ h p (.agg xs)=cp τ h p (.agg xs):=Eq.trans rfl rfl
theorem QN {p:D} {f:Nat} : cD τ h p (.fn f)=cp τ h p (.fn f):=Eq.trans rfl rfl
theorem MT {p:D} {f k:Nat} {xs:List D} : cD τ h p (.clo f k xs)=cp τ h p (.clo f k xs):=Eq.trans rfl rfl
theorem MX {p:D}  : cD τ h p (.und)=cp τ h p (.und):=Eq.trans rfl rfl
def U7 (τ:Ty) (x o y vy s oy n:Nat):Option Row→Option dj
 | some r=>if τ.size=1∧o=0∧r.cells.length=1∧r.fz=false∧r.lst=false then some ⟨.und,[(x,some ⟨r.v,r.ty,[.ali y vy s oy n],true,false,false⟩)]⟩ else none
 | none=>none
theorem EU {x o y vy s oy n:Nat} {r:Row} : U7 τ x o y vy s oy n (some r)=if τ.size=1∧o=0∧r.cells.length=1∧r.fz=false∧r.lst=false then some ⟨.und,[(x,some ⟨r.v,r.ty,[.ali y vy s oy n],true,false,false⟩)]⟩ else none:=Eq.trans rfl rfl
theorem MR {x v o y vy s oy n:Nat} : cD τ h (.ptr x v o) (.box1 y vy s oy n)=U7 τ x o y vy s oy n (live h x v):=by
 simp only[cD]
 cases live h x v<;>rfl
def GG (b:Bool) (T:Nat→Option Ty) (τ:Ty) (h:Nat→Option Row) (ps:List (Nat×D)):Option dj :=
 if b then dO T τ h ps else
  match τ.ds,ps with
  | .struct fs,[(0,.buf x v s o n)]=>if (alive h (.buf x v s o n))∧(fs.all fun f=>(T f.1).isSome)∧fieldAt T fs 0=some (0,1)∧τ.zero.length=1 then some ⟨.box1 x v s o n,[]⟩ else none
  | .struct fs,[(0,.box1 x v s o n)]=>if (alive h (.buf x v s o n))∧(fs.all fun f=>(T f.1).isSome)∧fieldAt T fs 0=some (0,1)∧τ.zero.length=1 then some ⟨.box1 x v s o n,[]⟩ else none
  | _,_=>cE (dO T τ h ps)
theorem LZ {d:Nat} {ps:List (Nat×D)} : mT q T τ h (some d) ps=GG (q d) T τ h ps:=Eq.trans rfl rfl
theorem C7:GG false T τ h []=cE (dO T τ h []):=by
 unfold GG
 rw[if_neg (by simp)]
 cases τ.ds<;>rfl
theorem OU {cs:List D} {hw:List (Nat×Option Row)} : cE (some ⟨.agg cs,hw⟩)=some ⟨.agg (cs.map canon),hw⟩:=Eq.trans rfl rfl
theorem C8 {ps:List (Nat×D)} : GG true T τ h ps=dO T τ h ps:=Eq.trans rfl rfl
def OR (T:Nat→Option Ty) (h:Nat→Option Row) (nz x v s o n:Nat):Ds→Option dj
 | .struct fs=>if (alive h (.buf x v s o n))∧(fs.all fun f=>(T f.1).isSome)∧fieldAt T fs 0=some (0,1)∧nz=1 then some ⟨.box1 x v s o n,[]⟩ else none
 | _=>none
theorem OS {nz x v s o n:Nat} {fs:List (Nat×Nat)} : OR T h nz x v s o n (.struct fs)=if (alive h (.buf x v s o n))∧(fs.all fun f=>(T f.1).isSome)∧fieldAt T fs 0=some (0,1)∧nz=1 then some ⟨.box1 x v s o n,[]⟩ else none:=Eq.trans rfl rfl
theorem GH {x v s o n:Nat} : GG false T τ h [(0,.box1 x v s o n)]=OR T h τ.zero.length x v s o n τ.ds:=by
 unfold GG OR dO
 rw[if_neg (by simp)]
 cases τ.ds<;>rfl
theorem zD {x v s o n:Nat} : GG false T τ h [(0,.buf x v s o n)]=OR T h τ.zero.length x v s o n τ.ds:=by
 unfold GG OR dO
 rw[if_neg (by simp)]
 cases τ.ds<;>rfl
def V1:Option (D×List Nat)→Option (D×List Nat)
 | some (d,fr)=>some (.agg [d],fr)
 | none=>none
theorem Hd {d:D} {fr:List Nat} : V1 (some (d,fr))=some (.agg [d],fr):=Eq.trans rfl rfl
theorem GZ {x v s o n:Nat} : bD h (.box1 x v s o n)=V1 (R7 x s o n (live h x v)):=by
 simp only[bD,aG,cT]
 cases live h x v with
 | none=>rfl
 | some r=>by_cases hc:o+n*s≤r.cells.length<;>simp[R7,V1,hc,canon]
theorem Qe {x v s o n:Nat} : nm (.box1 x v s o n)=[x]:=Eq.trans rfl rfl
theorem CZ {x v s o n:Nat} : alive h (.buf x v s o n)=(live h x v).isSome:=Eq.trans rfl rfl
theorem DZ {fs:List (Nat×Nat)} {ft off:Nat} : fieldAt T ((ft,off)::fs) 0=(T ft).map fun φ=>(off,φ.size):=by
 simp only[fieldAt,List.getElem?_cons_zero]
 cases T ft<;>rfl
end
theorem Wv:type_of% (ai @P6<|ai @S9<|ai @S7<|ai @S8<|ai @Ik<|ai @Ij<|ai @S6<|ai @OL<|ai @OK<|ai @MU<|ai @JJ<|ai @MW<|ai @QR<|ai @MV<|ai @QO<|ai @MS<|ai @MQ<|ai @QN<|ai @MT<|ai @MX<|ai @MR<|ai @EU<|ai @LZ<|ai @C8<|ai @OS<|ai @zD<|ai @C7<|ai @GH<|ai @OU<|ai @Hd<|ai @GZ<|ai @Qe<|ai @CZ<|@DZ):=⟨@P6,@S9,@S7,@S8,@Ik,@Ij,@S6,@OL,@OK,@MU,@JJ,@MW,@QR,@MV,@QO,@MS,@MQ,@QN,@MT,@MX,@MR,@EU,@LZ,@C8,@OS,@zD,@C7,@GH,@OU,@Hd,@GZ,@Qe,@CZ,@DZ⟩
theorem v:type_of% (ai @Ww<|ai @Wx<|ai @Wo<|ai @Wp<|ai @Wq<|ai @Wr<|ai @Ws<|ai @Wt<|ai @Wu<|ai @Wv<|ai @VF<|ai @WA<|ai @Option.toList_some.{0}<|@Option.toList_none.{0}):=⟨@Ww,@Wx,@Wo,@Wp,@Wq,@Wr,@Ws,@Wt,@Wu,@Wv,@VF,@WA,@Option.toList_some.{0},@Option.toList_none.{0}⟩
def A9 {α:Type} : List (Int×α)→List Int
 | []=>[]
 | (k,_)::m=>k::A9 m
def NU {α:Type} (A:Arg α):List (Int×α)→List D
 | []=>[]
 | (_,v)::m=>A.d v::NU A m
section
variable {α:Type} {A:Arg α}
theorem IL:A9 ([]:List (Int×α))=[]:=Eq.trans rfl rfl
theorem IQ:NU A []=[]:=Eq.trans rfl rfl
theorem IK (n:Int):∀m:List (Int×α),(A9 m).contains n=Sj m n
 | []=>rfl
 | (k,v)::m=>by
  have:=IK n m
  simp only[A9,List.contains_cons,Sj,this]
  congr 1
  exact Bool.beq_comm
theorem map_inj:∀ {m m':List (Int×α)},A9 m=A9 m'→NU A m=NU A m'→m=m'
 | [],[],_,_=>rfl
 | [],(k,v)::m',h,_=>by simp[A9]at h
 | (k,v)::m,[],h,_=>by simp[A9]at h
 | (k,v)::m,(k',v')::m',h,g=>by
  simp only[A9,List.cons.injEq]at h
  simp only[NU,List.cons.injEq]at g
  rw[h.1,A.inj _ _ g.1,map_inj h.2 g.2]
end
def WB {α:Type} (A:Arg α):kj (List (Int×α)):=⟨fun m=>[.mpc (A9 m) (NU A m)],1,fun _=>rfl,by decide,fun x y h=>by
 simp only[List.cons.injEq,D.mpc.injEq,and_true]at h
 exact map_inj h.1 h.2⟩
theorem Hz {α:Type} (A:Arg α):(WB A).size=1:=Eq.trans rfl rfl
def OF {α:Type} (e:kj α):Arg α:=⟨fun x =>.ip (e.cells x),fun x y h=>e.inj _ _ (by simpa using h)⟩
theorem SX {α:Type} (e:kj α) (x:α):(OF e).d x=.ip (e.cells x):=Eq.trans rfl rfl
section
variable {T:Nat→Option Ty} {h:Nat→Option Row} {Γ:Env} {e:Nat} {dst:Option Nat}
def VR (v:Nat):Option Row→Option (List Int×List D)
 | some r=>if r.v=v∧r.mp=true then (match r.cells with | [.mpc ks vs]=>some (ks,vs)|_=>none) else none
 | none=>none
theorem Ip {x v:Nat} : fS h x v=VR v (h x):=by
 unfold fS VR
 cases h x<;>rfl
theorem It {v ty:Nat} {ks:List Int} {vs:List D} {fz lst:Bool} : VR v (some ⟨v,ty,[.mpc ks vs],fz,lst,true⟩)=some (ks,vs):=by simp[VR]
def V6 (ks:List Int) (n:Int):Bool:=ks.contains n
theorem Mv {α:Type} {m:List (Int×α)} {n:Int} : V6 (A9 m) n=Sj m n:=IK n m
def Wn (ok:Bool) (z:D) (n:Int):Option (List Int×List D)→Option dj
 | some (ks,vs)=>some ⟨if ok then .tup [qt z ks vs n,.bool (V6 ks n)] else qt z ks vs n,[]⟩
 | none=>none
theorem Tp {z:D} {n:Int} {ks:List Int} {vs:List D} : Wn true z n (some (ks,vs))=some ⟨.tup [qt z ks vs n,.bool (V6 ks n)],[]⟩:=Eq.trans rfl rfl
theorem To {z:D} {n:Int} {ks:List Int} {vs:List D} : Wn false z n (some (ks,vs))=some ⟨qt z ks vs n,[]⟩:=Eq.trans rfl rfl
theorem IN {x v:Nat} : mapOf h (.mp x v)=fS h x v:=Eq.trans rfl rfl
theorem Ed {ks:List Int} {vs:List D} : mapOf h (.mpc ks vs)=some (ks,vs):=Eq.trans rfl rfl
def VT (h:Nat→Option Row) (y:Nat) (n:Int) (d:D) (fr:List Nat) (ks:List Int) (vs:List D):Option Row→Option dj
 | some r=>if r.fz=false∧fr.contains y=false then some ⟨.und,gO h fr++[(y,some ⟨r.v,r.ty,[.mpc (yV ks n) (Gd ks vs n d)],false,true,true⟩)]⟩ else none
 | none=>none
theorem IZ {y v ty:Nat} {n:Int} {d:D} {fr:List Nat} {ks:List Int} {vs:List D} {cells:List D} {lst mp:Bool} : VT h y n d fr ks vs (some ⟨v,ty,cells,false,lst,mp⟩)=if fr.contains y=false then some ⟨.und,gO h fr++[(y,some ⟨v,ty,[.mpc (yV ks n) (Gd ks vs n d)],false,true,true⟩)]⟩ else none:=by
 simp only[VT,true_and]
def V8 (h:Nat→Option Row) (y:Nat) (n:Int) (d:D) (fr:List Nat):Option (List Int×List D)→Option dj
 | some (ks,vs)=>VT h y n d fr ks vs (h y)
 | none=>none
theorem IY {y:Nat} {n:Int} {d:D} {fr:List Nat} {ks:List Int} {vs:List D} : V8 h y n d fr (some (ks,vs))=VT h y n d fr ks vs (h y):=Eq.trans rfl rfl
def WD (h:Nat→Option Row) (y v:Nat) (n:Int):Option (D×List Nat)→Option dj
 | some (d,fr)=>V8 h y n d fr (fS h y v)
 | none=>none
theorem IX {y v:Nat} {n:Int} {d:D} {fr:List Nat} : WD h y v n (some (d,fr))=V8 h y n d fr (fS h y v):=Eq.trans rfl rfl
theorem JS {k:IntKind} {n:Int} : uG h (.int k n)=some (.int k n,[]):=Eq.trans rfl rfl
theorem E2 {b:Bool} : uG h (.bool b)=some (.bool b,[]):=Eq.trans rfl rfl
theorem JR {xs:List D} : uG h (.agg xs)=some (.agg (xs.map canon),[]):=Eq.trans rfl rfl
def VP (τ:Ty) (h:Nat→Option Row) (x v y:Nat):Option Row→Option dj
 | some r=>match r.cells with
  | [.alm y' v']=>if r.fz=true∧r.lst=false∧τ.size=1∧τ.ds.nB=false then some ⟨.mp y' v',[]⟩ else none
  | _=>none
 | none=>mV τ h x v y (jy h x v)
theorem Ta {τ:Ty} {x v y:Nat} : lv τ h (.pm x v y)=VP τ h x v y (live h x v):=by
 simp only[lv]
 cases live h x v with
 | none=>rfl
 | some r =>
  obtain⟨v',ty,cells,fz,lst,mp⟩:=r
  rcases cells with _|⟨c,_|⟨c',cs⟩⟩<;>rfl
theorem Il {τ:Ty} {x v y:Nat} : VP τ h x v y none=mV τ h x v y (jy h x v):=Eq.trans rfl rfl
def VQ (τ:Ty) (h:Nat→Option Row) (x y s n:Nat):Option Row→Option dj
 | some r=>if y=1000000+x∧r.mp=false∧r.lst=true∧r.cells.length=n*s∧τ.size=1 then some ⟨if τ.ds.nB then .agg [.sl false false n r.cells] else .sl false false n r.cells,gO h [y]⟩ else none
 | none=>none
theorem P5 {τ:Ty} {r:Row} {x v y s n:Nat} : mV τ h x v y (some (r,y,s,n))=VQ τ h x y s n (h y):=by
 simp only[mV,VQ,PK]
 cases h y with
 | none=>rfl
 | some q=>simp
theorem Io {ty b:Nat} {ds:Ds} {z:List Value} {q:Bool} {x y s n e':Nat} {cells:List D} {fz:Bool} : VQ ⟨ds,1,b,z,q⟩ h x y s n (some ⟨e',ty,cells,fz,true,false⟩)=if y=1000000+x∧cells.length=n*s then some ⟨if ds.nB then .agg [.sl false false n cells] else .sl false false n cells,gO h [y]⟩ else none:=by
 simp[VQ]
def TX (T:Nat→Option Ty) (x v k:Nat):Option (Row×Nat×Nat×Nat)→Option (Nat×Nat)→Option dj
 | some _,some (ft,0)=>match T ft with|some φ=>if φ.size=0 then none else some ⟨.pm x v k,[]⟩|none=>none
 | _,_=>none
theorem D4 {T:Nat→Option Ty} {x v k ft:Nat} {r:Row×Nat×Nat×Nat} : TX T x v k (some r) (some (ft,0))=match T ft with|some φ=>if φ.size=0 then none else some ⟨.pm x v k,[]⟩|none=>none:=Eq.trans rfl rfl
theorem PE {T:Nat→Option Ty} {b c:Nat} {z:List Value} {q:Bool} {fs:List (Nat×Nat)} {x v k i:Nat} : de T ⟨.struct fs,b,c,z,q⟩ h i (.pm x v k)=TX T x v k (jy h x v) fs[i]?:=by
 simp only[de,TX]
 cases jy h x v with
 | none=>rfl
 | some r=>simp only;generalize fs[i]? = z;rcases z with _|⟨ft,_|off⟩<;>first|rfl|(simp;done)|(simp only;cases T ft<;>rfl)
def MP (x y s oy n k : Nat) : Option Row → Option Row → Option dj
  | some r, some q => if oy = 0 ∧ r.cells.length = 1 ∧ r.fz = false ∧ r.lst = false ∧ q.fz = false ∧ q.lst = true ∧ q.cells.length = n * s ∧ x ≠ y ∧ k = 1000000 + x then
          some ⟨.und, [(y, none), (k, some ⟨0, q.ty, q.cells, false, true, false⟩), (x, some ⟨r.v, r.ty, [.ph k s n], false, false, true⟩)]⟩ else none
  | _, _ => none
theorem QQ {ds:Ds} {b:Nat} {z:List Value} {q:Bool} {x v y vy s oy n k:Nat} : cD ⟨ds,1,b,z,q⟩ h (.pm x v k) (.box1 y vy s oy n)=MP x y s oy n k (live h x v) (live h y vy):=by
 simp only[cD,MP,PK,true_and]
 cases live h x v with
 | none=>rfl
 | some r=>cases live h y vy<;>rfl
theorem BW {x y s oy n k v ty e' ty':Nat} {c:D} {cells:List D} : MP x y s oy n k (some ⟨v,ty,[c],false,false,false⟩) (some ⟨e',ty',cells,false,true,false⟩)=if oy=0∧cells.length=n*s∧¬x=y∧k=1000000+x then
  some ⟨.und,[(y,none),(k,some ⟨0,ty',cells,false,true,false⟩),(x,some ⟨v,ty,[.ph k s n],false,false,true⟩)]⟩ else none:=by
 simp[MP]
theorem Im {v ty y' v':Nat} {b k el:Nat} {z:List Value} {q mp:Bool} {x0 v0 y0:Nat} : VP ⟨.map k el,1,b,z,q⟩ h x0 v0 y0 (some ⟨v,ty,[.alm y' v'],true,false,mp⟩)=some ⟨.mp y' v',[]⟩:=by
 simp[VP,Ds.nB]
def SJ (τ:Ty) (x y y' v':Nat) (m:Bool):Option Row→Option dj
 | some r=>if τ.size=1∧y'=y∧r.cells.length=1∧r.fz=false∧r.lst=false∧m then some ⟨.und,[(x,some ⟨r.v,r.ty,[.alm y' v'],true,false,false⟩)]⟩ else none
 | none=>none
theorem QP {τ:Ty} {x v y y' v':Nat} : cD τ h (.pm x v y) (.mp y' v')=SJ τ x y y' v' (fS h y v').isSome (live h x v):=by
 simp only[cD,SJ]
 cases live h x v<;>rfl
theorem ET {x y v' v ty:Nat} {c:D} {b:Nat} {ds:Ds} {z:List Value} {q mp:Bool} : SJ ⟨ds,1,b,z,q⟩ x y y v' true (some ⟨v,ty,[c],false,false,mp⟩)=some ⟨.und,[(x,some ⟨v,ty,[.alm y v'],true,false,false⟩)]⟩:=by
 simp[SJ]
theorem Tr {x v:Nat} : nm (.mp x v)=[x]:=Eq.trans rfl rfl
theorem Qf {ks:List Int} {vs:List D} : nm (.mpc ks vs)=[]:=Eq.trans rfl rfl
theorem Ts {x v y:Nat} : nm (.pm x v y)=[x,y]:=Eq.trans rfl rfl
def UD (x:Nat):Option (List Int×List D)→Option (D×List Nat)
 | some (ks,vs)=>some (.mpc ks vs,[x])
 | none=>none
theorem G9 {x:Nat} {ks:List Int} {vs:List D} : UD x (some (ks,vs))=some (.mpc ks vs,[x]):=Eq.trans rfl rfl
theorem Ma {x v:Nat} : bD h (.mp x v)=UD x (fS h x v):=by
 simp only[bD,aG,UD]
 cases fS h x v<;>rfl
theorem G3 {ks:List Int} {vs:List D} : bD h (.mpc ks vs)=some (.mpc ks vs,[]):=Eq.trans rfl rfl
theorem O3 {x v:Nat} : aG h (.mp x v)=UD x (fS h x v):=by
 simp only[aG,UD]
 cases fS h x v<;>rfl
theorem L5 {ks:List Int} {vs:List D} : aG h (.mpc ks vs)=some (.mpc ks vs,[]):=Eq.trans rfl rfl
theorem O2 {xs:List D} : aG h (.ip xs)=some (.ip xs,[]):=Eq.trans rfl rfl
theorem L6 {x v o:Nat} : aG h (.ptr x v o)=UE x o (live h x v):=by
 simp only[aG]
 cases live h x v with
 | none=>rfl
 | some r=>simp only[UE]
def VZ (x y:Nat):Option (List Int×List D)→Option (D×List Nat)
 | some (ks,vs)=>some (.ip [.mpc ks vs],[x,y])
 | none=>none
theorem Ha {x y:Nat} {ks:List Int} {vs:List D} : VZ x y (some (ks,vs))=some (.ip [.mpc ks vs],[x,y]):=Eq.trans rfl rfl
def V0 (h:Nat→Option Row) (x y:Nat):Option Row→Option (D×List Nat)
 | some r=>match r.cells with
  | [.alm y' v']=>if r.fz=true∧r.lst=false∧y'=y then VZ x y (fS h y v') else none
  | _=>none
 | none=>none
theorem Hc {x y v' v ty:Nat} {mp:Bool} : V0 h x y (some ⟨v,ty,[.alm y v'],true,false,mp⟩)=VZ x y (fS h y v'):=by
 simp[V0]
theorem O4 {x v y:Nat} : aG h (.pm x v y)=V0 h x y (live h x v):=by
 simp only[aG]
 cases live h x v with
 | none=>rfl
 | some r =>
  obtain⟨v',ty,cells,fz,lst,mp⟩:=r
  rcases cells with _|⟨c,_|⟨c',cs⟩⟩<;>rfl
theorem MF {x v o:Nat} : gP (.ptr x v o)=true:=Eq.trans rfl rfl
theorem Qj {x v y:Nat} : gP (.pm x v y)=true:=Eq.trans rfl rfl
theorem Qh {xs:List D} : gP (.ip xs)=true:=Eq.trans rfl rfl
theorem Qi {x v:Nat} : gP (.mp x v)=true:=Eq.trans rfl rfl
theorem ME {ks:List Int} {vs:List D} : gP (.mpc ks vs)=true:=Eq.trans rfl rfl
theorem PI {v ty:Nat} {cells:List D} {fz mp:Bool} : oH ⟨v,ty,cells,fz,true,mp⟩=⟨v,ty,cells,true,true,mp⟩:=by cases fz<;>rfl
theorem Mp {d:Nat} : aT.hint d=none:=Eq.trans rfl rfl
theorem H0 {f:Nat} {l:Bool} {G:Option (D×Row)→List D→Option (RK×Option Row)} {d:Nat} : (Am.ext Γ f l G).hint d=Γ.hint d:=Eq.trans rfl rfl
theorem D8 {d i:Nat} : (Am.keep d Γ).hint i=Γ.hint i:=Eq.trans rfl rfl
theorem D7 {d y i:Nat} : (Am.tC d y Γ).hint i=if i=d then some y else Γ.hint i:=Eq.trans rfl rfl
theorem H4 {d y i:Nat} : (Am.tC d y Γ).own i=Γ.own i:=Eq.trans rfl rfl
theorem AU {d y i:Nat} : (Am.tC d y Γ).lends i=Γ.lends i:=Eq.trans rfl rfl
theorem H5 {d y i:Nat} {lent:Option (D×Row)} {WH:List D} : (Am.tC d y Γ).sem i lent WH=Γ.sem i lent WH:=Eq.trans rfl rfl
theorem D3 {ks:List Int} {vs:List D} : eU (.mpc ks vs)=false:=Eq.trans rfl rfl
theorem Dk {ks:List Int} {vs:List D} : canon (.mpc ks vs)=.mpc ks vs:=Eq.trans rfl rfl
theorem zP {ks:List Int} {vs:List D} : eB (.mpc ks vs)=.mpc ks vs:=Eq.trans rfl rfl
end
structure J1 {α:Type} (E:kj α) (C:List D) (o:Nat) (l:List α):Prop where
 fit:o+l.length*E.size≤C.length
 eq:(C.drop o).take (l.length*E.size)=ab E l
theorem J1.split {α:Type} {E:kj α} {C:List D} {o:Nat} {l:List α} (F:J1 E C o l):C.drop o=ab E l++C.drop (o+l.length*E.size):=by
 rw[← List.drop_drop]
 conv=>lhs;rw[← List.take_append_drop (l.length*E.size) (C.drop o)]
 rw[F.eq]
theorem J1.idx {α:Type} {E:kj α} {C:List D} {o:Nat} {l:List α} {i:Int} {x:α} (F:J1 E C o l) (h:P.idx l i=some x):o+i.toNat*E.size+E.size≤C.length∧∃rest,C.drop (o+i.toNat*E.size)=E.cells x++rest:=by
 have h1:=sL E h
 have h2:=F.fit
 refine⟨by omega,ab E (l.drop (i.toNat+1))++C.drop (o+l.length*E.size),?_⟩
 rw[← List.drop_drop,F.split,List.drop_append_of_le_length (by rw[cq];omega),vx E h,List.append_assoc]
theorem J1.tail {α:Type} {E:kj α} {C:List D} {o:Nat} {l m:List α} {a:Int} (F:J1 E C o l) (h:yY l a (l.length:Int)=some m):J1 E C (o+a.toNat*E.size) m:=by
 obtain⟨h1,h2,h3,h4,h5⟩:=Ug E h
 have h6:=F.fit
 have h7:a.toNat*E.size+m.length*E.size=l.length*E.size:=by rw[← Nat.add_mul];congr 1;omega
 refine⟨by omega,?_⟩
 rw[← List.drop_drop,F.split,List.drop_append_of_le_length (by rw[cq];omega),List.take_append_of_le_length (by rw[List.length_drop,cq];omega),h5]
theorem VH:type_of% (ai @IL<|ai @IQ<|ai @Ip<|ai @It<|ai @Mv<|ai @Tp<|ai @To<|ai @IN<|ai @Ed<|ai @IZ<|ai @IY<|ai @IX<|ai @JS<|ai @E2<|ai @JR<|ai @Ta<|ai @Im<|ai @QP<|ai @ET<|ai @Tr<|ai @Qf<|@Ts):=⟨@IL,@IQ,@Ip,@It,@Mv,@Tp,@To,@IN,@Ed,@IZ,@IY,@IX,@JS,@E2,@JR,@Ta,@Im,@QP,@ET,@Tr,@Qf,@Ts⟩
theorem VI:type_of% (ai @G9<|ai @Ma<|ai @G3<|ai @O3<|ai @L5<|ai @O2<|ai @L6<|ai @Ha<|ai @Hc<|ai @O4<|ai @MF<|ai @Qj<|ai @Qh<|ai @Qi<|ai @ME<|ai @PJ<|ai @PH<|ai @PI<|ai @Mp<|ai @H0<|ai @D8<|ai @D7<|ai @H4<|ai @AU<|ai @H5<|ai @Ep<|ai @Eo<|ai @D3<|ai @Dk<|ai @zP<|ai @Hz<|@SX):=⟨@G9,@Ma,@G3,@O3,@L5,@O2,@L6,@Ha,@Hc,@O4,@MF,@Qj,@Qh,@Qi,@ME,@PJ,@PH,@PI,@Mp,@H0,@D8,@D7,@H4,@AU,@H5,@Ep,@Eo,@D3,@Dk,@zP,@Hz,@SX⟩
theorem VJ:type_of% (ai @xG<|ai @xK<|ai @zZ<|ai @z8<|ai @tq<|ai @tw<|ai @zY<|ai @z7<|ai @tT<|ai @wb<|ai @qH<|ai @wa<|ai @OO<|ai @LQ<|@OP):=⟨@xG,@xK,@zZ,@z8,@tq,@tw,@zY,@z7,@tT,@wb,@qH,@wa,@OO,@LQ,@OP⟩
theorem VG:type_of% (ai @Il<|ai @P5<|ai @Io<|ai @QQ<|ai @BW<|ai @D4<|@PE):=⟨@Il,@P5,@Io,@QQ,@BW,@D4,@PE⟩
theorem vi:type_of% (ai @VH<|ai @VI<|ai @VG<|@VJ):=⟨@VH,@VI,@VG,@VJ⟩
def OD (P:Program) (f:FuncId):Prop:=∀(blk off cap:Nat) (zs:List Int) (w:World),Go.Sort.Holds (Value.int .i64) w blk off zs.toArray→blk<w.heap.size→zs.length<4611686018427387904 →
 Calls P f #[.slice (some ⟨blk,off,none⟩) zs.length cap] w fun e w'=>e=.returned (.tuple #[])∧∃n os,w'=Go.Sort.grow (Go.Sort.putRow (Value.int .i64) (Go.Sort.ahead w n) blk off (fl zs).toArray) os
theorem gW (k:IntKind):∀(l:List Int) (j:Nat),(ab (eI k) l)[j]? = l[j]?.map fun n =>.int k n
 | [],j=>by simp[ab]
 | x::l,0=>by simp[ab,eI]
 | x::l,j+1=>by
  have:=gW k l j
  simp only[ab,u7,List.cons_append,List.nil_append,List.getElem?_cons_succ]
  exact this
theorem bS (k:IntKind) (l:List Int):(ab (eI k) l).length=l.length:=by rw[cq];show l.length*1=_;omega
theorem rZ {w:World} {b off:Nat} {d:List Int} {cs:Array Value} {ty:Nat} {fr:Nat×Nat} (h:w.heap[b]? = some (.cells cs ty fr)):(Go.Sort.putRow (Value.int .i64) w b off d.toArray).heap[b]? = some (.cells (Go.Sort.putCells (Value.int .i64) off d.toArray cs) ty fr):=by
 simp[Go.Sort.putRow,Go.Sort.mapBlock,Array.getElem?_modify,h,Go.Sort.onCells]
theorem j4 {w:World} {b c off:Nat} {d:List Int} (h:c≠b):(Go.Sort.putRow (Value.int .i64) w b off d.toArray).heap[c]? = w.heap[c]?:=by
 simp[Go.Sort.putRow,Go.Sort.mapBlock,Array.getElem?_modify,Ne.symm h]
theorem pQ {off:Nat} {d:List Int} {cs:Array Value} {k:Nat} (hk:k<cs.size):(Go.Sort.putCells (Value.int .i64) off d.toArray cs).getD k undef=if off≤k∧k<off+d.length then .int .i64 (d.getD (k-off) 0) else cs.getD k undef:=by
 have h1:(Go.Sort.putCells (Value.int .i64) off d.toArray cs)[k]? = some (if off≤k∧k<off+d.length then .int .i64 (d.getD (k-off) 0) else cs[k]):=by
  simp only[Go.Sort.putCells,Array.getElem?_mapIdx,Array.getElem?_eq_getElem hk,Option.map_some,List.size_toArray]
  congr 1
  split
  ·rename_i hc
   congr 1
   have:k-off<d.length:=by omega
   simp[List.getD,this]
  ·rfl
 rw[Array.getD_eq_getD_getElem?,h1]
 simp[Array.getD_eq_getD_getElem?,hk]
theorem SH {P:Program} {f:FuncId} {fn:Func} {ty:Nat} {F small:List Int→Option (List Int×Unit)} (hf:P.funcs[f]? = some fn) (hc:(fn.name == "runtime.NumGoroutine")=false∧fn.body.isNone=false)
  (hF:∀l,F l=if l.length<4611686018427387904 then some (fl l,()) else none) (hs:bI P f (Ow ty (eI .i64) RQ (fun l (_:Unit)=>small l) (fun _:Unit =>.clean (.tup [])))) (h0:small []=some ([],())) (hS:OD P f) :
  bI P f (Ow ty (eI .i64) RQ (fun l (_:Unit)=>F l) (fun _:Unit =>.clean (.tup []))) where
 callable:=⟨fn,hf,hc⟩
 calls lent WH rk out hg:=by
  obtain⟨pre,l,post,a,l',r,rfl,rfl,hr,rfl,rfl⟩:=IV hg
  rw[hF]at hr
  split at hr
  ·rename_i hlen
   cases hr
   by_cases hl:l=[]
   ·subst hl
    rw[xp]
    exact hs.calls _ _ _ _ (by rw[Bb];simp[h0])
   ·intro w M go u0 vs hM hgoM hz hmp hrow hlv hargs
    have hpos:0<l.length:=List.length_pos_iff.2 hl
    have hvs:vs = #[]:=by
     have:=hargs.1
     simpa [RQ] using this
    subst hvs
    cases go with
    | none =>
     have hce:pre++(ab (eI .i64) l++post)=[]:=hrow
     have:=congrArg List.length hce
     rw[List.length_append,List.length_append,bS,List.length_nil]at this
     omega
    | some g =>
     obtain⟨cs,h1,h2,h3⟩:=hrow
     simp only[List.length_append,bS]at h2
     have hcell:∀j,j<l.length→cs.getD (g.2+(pre.length+j)) undef=.int .i64 (l.getD j 0):=by
      intro j hj
      have hd:(pre++(ab (eI .i64) l++post))[pre.length+j]? = some (.int .i64 (l.getD j 0)):=by
       rw[List.getElem?_append_right (by omega),Nat.add_sub_cancel_left,List.getElem?_append_left (by rw[bS];exact hj),gW]
       simp[List.getD,hj]
      obtain⟨_,hp⟩:=h3 _ _ hd
      cases hu:cs.getD (g.2+(pre.length+j)) undef<;>rw[hu]at hp<;>cases hp
      rfl
     rcases hlv.2 ⟨0,0,[],false,false,false⟩ rfl rfl with⟨g',o',c,N,t,k0,k1,k2,k3,k4,k5⟩|⟨k0,_⟩
     ·cases k0
      obtain⟨rfl,k6⟩:=k2 (.inl (by omega))
      subst k1
      have hlt:g.1<w.heap.size:=(Array.getElem?_eq_some_iff.1 h1).1
      have hH:Go.Sort.Holds (Value.int .i64) w g.1 (g.2+pre.length) l.toArray:=by
       intro j hj
       simp only[List.size_toArray]at hj
       refine⟨?_,by simp[World.frozen?,h1]⟩
       have:=bf h1 (j:=g.2+pre.length+j) (by omega)
       rw[this,Nat.add_assoc,hcell j hj]
       simp[List.getD,hj]
      refine (hS g.1 (g.2+pre.length) c l w hH hlt hlen).mono fun e w' ⟨he,n,os,hw⟩ =>?_
      subst hw
      refine⟨.tuple #[],he,?_,?_,?_⟩
      ·refine⟨rfl,rfl,rfl,by simp[Go.Sort.ahead],fun k hk hn =>?_⟩
       have hkg:k≠g.1:=fun e=>hn ⟨g,rfl,e⟩
       rw[Go.Sort.heap_grow_old _ _ (by simpa [Go.Sort.ahead] using hk),j4 hkg]
       rfl
      ·have hnew:(Go.Sort.grow (Go.Sort.putRow (Value.int .i64) (Go.Sort.ahead w n) g.1 (g.2+pre.length) (fl l).toArray) os).heap[g.1]? = some (.cells (Go.Sort.putCells (Value.int .i64) (g.2+pre.length) (fl l).toArray cs) ty (0,0)):=by
        rw[Go.Sort.heap_grow_old _ _ (by simpa [Go.Sort.ahead] using hlt)]
        exact rZ h1
       have hsz:(Go.Sort.putCells (Value.int .i64) (g.2+pre.length) (fl l).toArray cs).size=cs.size:=by simp[Go.Sort.putCells]
       refine⟨rfl,rfl,rfl,fun g' hg' =>?_,?_⟩
       ·cases hg'
        simp[World.shape?,hnew,h1,hsz]
       ·refine⟨_,hnew,?_,fun j d hj =>?_⟩
        ·simp only[List.length_append,bS,eL,hsz];exact h2
        ·have hjl:j<pre.length+(l.length+post.length):=by
          have:=(List.getElem?_eq_some_iff.1 hj).1
          simpa [bS,eL] using this
         have hrest:∀ {d:D} {u:Value},RP w (fun b=>M b∨lN (some g) b) d u→RP (Go.Sort.grow (Go.Sort.putRow (Value.int .i64) (Go.Sort.ahead w n) g.1 (g.2+pre.length) (fl l).toArray) os) (fun b=>M b∨lN (some g) b) d u:=by
          intro d u hu
          refine hu.keep fun b q1 q2=>⟨by simp[Go.Sort.ahead];omega,q2,?_⟩
          have hbg:b≠g.1:=fun e=>q2 (.inr ⟨g,rfl,e⟩)
          rw[Go.Sort.heap_grow_old _ _ (by simpa [Go.Sort.ahead] using q1),j4 hbg]
          rfl
         rw[pQ (by omega),eL]
         by_cases hin:pre.length≤j∧j<pre.length+l.length
         ·rw[if_pos (by omega)]
          rw[List.getElem?_append_right (by omega),List.getElem?_append_left (by rw[bS,eL];omega),gW,Option.map_eq_some_iff]at hj
          obtain⟨z,hz,rfl⟩:=hj
          have e1:g.2+j-(g.2+pre.length)=j-pre.length:=by omega
          rw[e1]
          have e2:(fl l).getD (j-pre.length) 0=z:=by simp[List.getD,hz]
          rw[e2]
          exact⟨rfl,.int _ _⟩
         ·rw[if_neg (by omega)]
          have hj':(pre++(ab (eI .i64) l++post))[j]? = some d:=by
           by_cases hlo:j<pre.length
           ·rw[List.getElem?_append_left hlo]at hj ⊢
            exact hj
           ·rw[List.getElem?_append_right (by omega),List.getElem?_append_right (by rw[bS,eL];omega),bS,eL]at hj
            rw[List.getElem?_append_right (by omega),List.getElem?_append_right (by rw[bS];omega),bS]
            exact hj
          exact⟨(h3 j d hj').1,hrest (h3 j d hj').2⟩
      ·exact .tup [] [] rfl (fun j x hj=>by simp at hj)
     ·cases k0
  ·cases hr
end Go.Proofs.YtpkahnkoecbndaaGreatDoor.Am
namespace Go.Proofs.YtpkahnkoecbndaaGreatDoor.P
open Go.RowKit
set_option linter.unusedSimpArgs false
set_option linter.unusedVariables false
theorem wrap64 {x:Int} (h1 : -9223372036854775808≤x) (h2:x<9223372036854775808):IntKind.i64.wrap x=x:=by
 have key:IntKind.i64.wrap x=if x % 18446744073709551616≥9223372036854775808 then x % 18446744073709551616-18446744073709551616 else x % 18446744073709551616:=by
  unfold IntKind.wrap
  by_cases h:x % 18446744073709551616≥9223372036854775808
  ·rw[if_pos h];exact if_pos (by simpa [IntKind.bits,IntKind.signed] using h)
  ·rw[if_neg h];exact if_neg (by simpa [IntKind.bits,IntKind.signed] using h)
 rw[key]
 split<;>omega
theorem LX (b:ByteArray):∀(n i:Nat) (r:List UInt8),b.size-i=n→ByteArray.toList.loop b i r=r.reverse++b.data.toList.drop i
 | 0,i,r,h=>by
  rw[ByteArray.toList.loop]
  have hb:b.data.toList.length=b.size:=Array.length_toList
  rw[if_neg (by omega),List.drop_eq_nil_of_le (by omega),List.append_nil]
 | n+1,i,r,h=>by
  rw[ByteArray.toList.loop]
  have hi:i<b.size:=by omega
  have hb:i<b.data.toList.length:=by rw[Array.length_toList];exact hi
  rw[if_pos hi,LX b n (i+1) _ (by omega),List.drop_eq_getElem_cons hb]
  have hg:b.get! i=b.data.toList[i]:=by
   have:b.get! i=b.data[i]!:=rfl
   rw[this]
   have hd:i<b.data.size:=by simpa using hb
   rw[getElem!_pos b.data i hd]
   exact (Array.getElem_toList hd).symm
  rw[hg]
  simp
theorem C5 (b:ByteArray):b.toList=b.data.toList:=by
 unfold ByteArray.toList
 rw[LX b (b.size-0) 0 [] rfl]
 simp
theorem TO {a b:ByteArray} (h:a.toList=b.toList):a=b:=by
 rw[C5,C5]at h
 cases a;cases b
 simp only[ByteArray.mk.injEq]
 exact Array.ext' h
theorem MY {a b:ByteArray} : (a.toList==b.toList)=decide (a=b):=by
 by_cases h:a=b
 ·subst h;simp
 ·have:¬a.toList=b.toList:=fun h'=>h (TO h')
  simp[h,this]
theorem TN {a b:ByteArray} : (a==b)=decide (a=b):=by
 have e:(a==b)=(a.data==b.data):=by cases a;cases b;rfl
 rw[e]
 by_cases h:a=b
 ·subst h;simp
 ·have:¬a.data=b.data:=fun h'=>h (by cases a;cases b;simp only[ByteArray.mk.injEq];exact h')
  simp[h,this]
theorem vz {α:Type} {l:List α} {i:Int} {x:α} (h0:0≤i) (h:l[i.toNat]? = some x):P.idx l i=some x:=by
 have:=(List.getElem?_eq_some_iff.1 h).1
 unfold P.idx
 rw[if_pos ⟨h0,by omega⟩,h]
theorem sM {α:Type} {l:List α} {i:Int} (h0:0≤i) (h:i<l.length):P.idx l i=some (l[i.toNat]'(by omega)):=vz h0 (List.getElem?_eq_getElem (by omega))
theorem du {α:Type} {l:List α} {i:Nat} (h:i<l.length):P.idx l (i:Int)=some (l[i]):=vz (by omega) (by simp[h])
theorem zh {α:Type} {l:List α} {i:Nat} (h:i≤l.length):yY l 0 (i:Int)=some (l.take i):=by
 unfold yY
 rw[if_pos ⟨by omega,by omega,by omega⟩]
 simp
end Go.Proofs.YtpkahnkoecbndaaGreatDoor.P
namespace Go.Proofs.YtpkahnkoecbndaaGreatDoor.Am
open Go.RowKit Go.Deep Go.ChangeShapes Go.WideShapes
set_option linter.unusedSimpArgs false
set_option linter.unusedVariables false
def Gw (T:Nat→Option Ty):Nat→Nat→List D→Prop
 | 0,_,_=>False
 | n+1,t,xs =>
  match T t with
  | none=>False
  | some τ=>xs.length=τ.size ∧
   match τ.ds with
   | .int k=>∃i,xs=[.int k i]∧(Lit.int k i).wf=true
   | .bool=>∃b,xs=[.bool b]
   | .str=>∃s:ByteArray,xs=[.str s]∧s.size≤140737488351232
   | .slice e=>∃len ys φ,xs=[.sl false false len ys]∧len*φ.bytes≤140737488351232∧T e=some φ∧ys.length=len*φ.size∧∀i,i<len→Gw T n e ((ys.drop (i*φ.size)).take φ.size)
   | .struct fs=>∀f∈fs,∃φ,T f.1=some φ∧Gw T n f.1 ((xs.drop f.2).take φ.size)
   | .arr m e=>∃φ,T e=some φ∧∀i,i<m→Gw T n e ((xs.drop (i*φ.size)).take φ.size)
   | .map _ _=>False
   | .other=>False
def xW (T:Nat→Option Ty):Nat→List (Nat×Nat)→Nat→Bool
 | o,[],z=>o==z
 | o,(ft,off)::fs,z=>off==o&&match T ft with|some φ=>xW T (o+φ.size) fs z|none=>false
def NY (T:Nat→Option Ty):Nat→Nat→Bool
 | 0,_=>false
 | n+1,t =>
  match T t with
  | none=>false
  | some τ =>
   match τ.ds with
   | .int _ | .bool | .str=>τ.size==1
   | .slice e=>τ.size==1&&NY T n e&&(match T e with|some φ=>decide (0<φ.size)|none=>false)
   | .struct fs=>xW T 0 fs τ.size&&fs.all fun f=>NY T n f.1
   | .arr m e=>NY T n e&&(match T e with|some φ=>τ.size==m*φ.size|none=>false)
   | .map _ _=>false
   | .other=>false
def kr (w:World) (M:Nat→Prop) (xs:List D) (cs:List Value):Prop:=xs.length=cs.length∧∀(j:Nat) (x:D),xs[j]? = some x→aO x=true∧∃v,cs[j]? = some v∧RP w M x v
theorem kr.append {w:World} {M:Nat→Prop} {xs ys:List D} {cs ds:List Value} (h:kr w M xs cs) (k:kr w M ys ds):kr w M (xs++ys) (cs++ds):=by
 refine⟨by simp[h.1,k.1],fun j x hj =>?_⟩
 rw[List.getElem?_append]at hj ⊢
 rw[← h.1]
 split at hj
 ·rename_i hlt;rw[if_pos hlt];exact h.2 j x hj
 ·rename_i hlt;rw[if_neg hlt];exact k.2 _ x hj
theorem AG {α:Type} (s:Nat):∀(ls:List (List α)),(∀l∈ls,l.length=s)→∀(i:Nat) (l:List α),ls[i]? = some l→(ls.flatten.drop (i*s)).take s=l
 | [],_,i,l,h=>by simp at h
 | a::ls,hl,0,l,h=>by
  simp only[List.getElem?_cons_zero,Option.some.injEq]at h
  subst h
  have:a.length=s:=hl a (by simp)
  simp[this]
 | a::ls,hl,i+1,l,h=>by
  have ha:a.length=s:=hl a (by simp)
  rw[List.flatten_cons,List.drop_append,List.drop_eq_nil_of_le (by rw[ha,Nat.succ_mul];omega),List.nil_append,ha,Nat.succ_mul,Nat.add_sub_cancel]
  exact AG s ls (fun x hx=>hl x (List.mem_cons_of_mem _ hx)) i l h
theorem HJ {α:Type} (s:Nat):∀(ls:List (List α)),(∀l∈ls,l.length=s)→ls.flatten.length=ls.length*s
 | [],_=>by simp
 | a::ls,hl=>by
  rw[List.flatten_cons,List.length_append,HJ s ls (fun x hx=>hl x (List.mem_cons_of_mem _ hx)),hl a (by simp),List.length_cons,Nat.succ_mul]
  omega
section
variable {H:Type} {enc:TypeId×Value→H} {P:Program} {w:World} {base:Nat} {spare:Nat→Bool} {held:Bool} {T:Nat→Option Ty}
theorem cZ.bytesOf {P:Program} {t:Nat} {τ:Ty} (h:cZ P t τ):P.bytesOf t=τ.bytes:=by
 have:=h.info
 unfold Program.bytesOf
 cases hi:P.info? t with
 | none=>rw[hi]at this;simp at this
 | some i=>rw[hi]at this;simp only[Option.map_some,Option.some.injEq,Prod.mk.injEq]at this;simp[this.2.1]
def Reach (P:Program) (t:Nat) (d:DataW H):Prop:=∀k∈d.weights P t,k≤140737488351232
theorem xm {e:TypeId} : ∀(l:List (DataW H)) (j:Nat) (d:DataW H),l[j]? = some d→∀k∈d.weights P e,k∈DataW.weightsAll P e l
 | x::l,0,d,h,k,hk=>by
  simp only[List.getElem?_cons_zero,Option.some.injEq]at h
  subst h
  simp only[DataW.weightsAll,List.mem_append]
  exact .inl hk
 | x::l,j+1,d,h,k,hk=>by
  simp only[DataW.weightsAll,List.mem_append]
  exact .inr (xm l j d (by simpa using h) k hk)
 | [],j,d,h,k,hk=>by simp at h
theorem cZ.cells {P:Program} {t:Nat} {τ:Ty} (h:cZ P t τ):P.cellsOf t=τ.size:=by
 have:=h.info
 unfold Program.cellsOf
 cases hi:P.info? t with
 | none=>rw[hi]at this;simp at this
 | some i=>rw[hi]at this;simp only[Option.map_some,Option.some.injEq,Prod.mk.injEq]at this;simp[this.1]
theorem Ms {T:Nat→Option Ty} {w:World} {M:Nat→Prop} {cs:List Value} : ∀(fs:List (Nat×Nat)) (o z:Nat) (f:Nat×Nat→List D),xW T o fs z=true→cs.length=z →
  (∀p∈fs,∃φ,T p.1=some φ∧kr w M (f p) ((cs.drop p.2).take φ.size))→o≤z→∃xs,kr w M xs (cs.drop o)∧∀p∈fs,∃φ,T p.1=some φ∧o≤p.2∧(xs.drop (p.2-o)).take φ.size=f p
 | [],o,z,f,hl,hc,_,_=>by
  simp only[xW,beq_iff_eq]at hl
  refine⟨[],⟨by rw[List.length_drop,hc,hl];simp,fun j x hj=>by simp at hj⟩,fun p hp=>by simp at hp⟩
 | (ft,off)::fs,o,z,f,hl,hc,hp,hoz=>by
  simp only[xW,Bool.and_eq_true,beq_iff_eq]at hl
  obtain⟨rfl,hl⟩:=hl
  obtain⟨φ,hφ,hR⟩:=hp (ft,off) (by simp)
  simp only[hφ]at hl
  have hz:off+φ.size≤z:=by
   have:∀(fs:List (Nat×Nat)) (o:Nat),xW T o fs z=true→o≤z:=by
    intro fs
    induction fs with
    | nil=>intro o h;simp only[xW,beq_iff_eq]at h;omega
    | cons p fs ih =>
     intro o h
     obtain⟨a,b⟩:=p
     simp only[xW,Bool.and_eq_true]at h
     have h2:=h.2
     split at h2
     ·have:=ih _ h2;omega
     ·cases h2
   exact this fs _ hl
  obtain⟨xs,hx,hxs⟩:=Ms fs (off+φ.size) z f hl hc (fun p h=>hp p (List.mem_cons_of_mem _ h)) hz
  have hfl:(f (ft,off)).length=φ.size:=by
   rw[hR.1,List.length_take,List.length_drop,hc];omega
  refine⟨f (ft,off)++xs,?_,fun p h =>?_⟩
  ·have:=hR.append hx
   rw[← List.drop_drop,List.take_append_drop]at this
   exact this
  ·rcases List.mem_cons.1 h with rfl|h
   ·exact⟨φ,hφ,Nat.le_refl _,by simp only[Nat.sub_self,List.drop_zero];rw[List.take_append_of_le_length (by omega),List.take_of_length_le (by omega)]⟩
   ·obtain⟨ψ,h1,h2,h3⟩:=hxs p h
    refine⟨ψ,h1,by omega,?_⟩
    rw[List.drop_append,List.drop_eq_nil_of_le (by omega),List.nil_append,hfl]
    have:p.2-off-φ.size=p.2-(off+φ.size):=by omega
    rw[this,h3]
theorem kr.one {w:World} {M:Nat→Prop} {x:D} {v:Value} (hp:aO x=true) (h:RP w M x v):kr w M [x] [v]:=by
 refine⟨rfl,fun j y hj =>?_⟩
 match j,hj with
 | 0,hj=>simp only[List.getElem?_cons_zero,Option.some.injEq]at hj;subst hj;exact⟨hp,v,rfl,h⟩
 | j+1,hj=>simp at hj
theorem kr.flat {w:World} {M:Nat→Prop} {cs:List Value} {s:Nat} : ∀(ls:List (List D)) (o:Nat),(∀(i:Nat) l,ls[i]? = some l→kr w M l ((cs.drop (o+i*s)).take s))→(∀l∈ls,l.length=s)→kr w M ls.flatten ((cs.drop o).take (ls.length*s))
 | [],o,_,_=>⟨by simp,fun j x hj=>by simp at hj⟩
 | a::ls,o,h,hl=>by
  have h0:=h 0 a rfl
  have h1:=kr.flat ls (o+s) (fun i l hi=>by
   have:=h (i+1) l (by simpa using hi)
   rw[Nat.succ_mul]at this
   rw[show o+s+i*s=o+(i*s+s) by omega]
   exact this) (fun l hx=>hl l (List.mem_cons_of_mem _ hx))
  have:=h0.append h1
  rw[Nat.zero_mul,Nat.add_zero]at this
  rw[List.flatten_cons,List.length_cons,Nat.succ_mul,Nat.add_comm (ls.length*s) s,List.take_add,List.drop_drop]
  exact this
theorem TQ (hT:km P T) {M:Nat→Prop} (hM:∀b,base≤b→b<w.heap.size→¬M b):∀(n t fuel:Nat) (cs:List Value) (x:DataW H×List MemPlace),NY T n t=true→DataW.trod enc P w base spare held fuel t cs=some x→Reach P t x.1→∃xs,Gw T n t xs∧kr w M xs cs:=by
 intro n
 induction n with
 | zero=>intro t fuel cs x h;cases h
 | succ n ih =>
  intro t fuel cs x hok h hw
  unfold NY at hok
  unfold Gw
  cases hτ:T t with
  | none=>rw[hτ]at hok;cases hok
  | some τ =>
   rw[hτ]at hok
   simp only at hok ⊢
   obtain⟨d,hd,hc⟩:=under hT hτ
   cases hds:τ.ds with
   | int k =>
    rw[hds]at hok hc
    simp only[beq_iff_eq]at hok
    have hd':=uV hc
    subst hd'
    obtain⟨i,rfl,_,hw⟩:=DataW.trod_int hd h
    exact⟨[.int k i],⟨by rw[hok];rfl,i,rfl,hw⟩,.one rfl (.int k i)⟩
   | bool =>
    rw[hds]at hok hc
    simp only[beq_iff_eq]at hok
    have hd':=so hc
    subst hd'
    obtain⟨b,rfl,_⟩:=DataW.trod_bool hd h
    exact⟨[.bool b],⟨by rw[hok];rfl,b,rfl⟩,.one rfl (.bool b)⟩
   | str =>
    rw[hds]at hok hc
    simp only[beq_iff_eq]at hok
    have hd':=oE hc
    subst hd'
    obtain⟨s,rfl,rfl,hs⟩:=DataW.trod_string hd h
    have hs':s.size≤140737488351232:=by
     have:=hw s.data.toList.length (by simp[DataW.weights])
     simpa using this
    exact⟨[.str s],⟨by rw[hok];rfl,s,rfl,hs'⟩,.one rfl (.str s)⟩
   | map _ _=>rw[hds]at hok;cases hok
   | other=>rw[hds]at hok;cases hok
   | struct fs =>
    rw[hds]at hok hc
    simp only[Bool.and_eq_true,List.all_eq_true]at hok
    obtain⟨F,rfl,hF⟩:=fO hc
    obtain⟨ys,m,_,rfl,hlen,hyl,hf⟩:=DataW.trod_struct hd h
    have hwy:∀(i:Nat) (f:Field) y,F[i]? = some f→ys[i]? = some y→Reach P f.type y.1:=by
     intro i f y hfi hyi k hk
     refine hw k ?_
     simp only[DataW.weights,hd]
     exact DataW.weights_mem_each (j:=i) (t:=f.type) (d:=y.1) (by rw[List.getElem?_map,Array.getElem?_toList,hfi];rfl) (by simp[hyi]) k hk
    rw[(hT t τ hτ).cells]at hlen
    have hone:∀p:Nat×Nat,∃zs,p∈fs→∃φ,T p.1=some φ∧Gw T n p.1 zs∧kr w M zs ((cs.drop p.2).take φ.size):=by
     intro p
     by_cases hp:p∈fs
     ·have hokp:=hok.2 p hp
      rw[← hF]at hp
      obtain⟨f,hfm,rfl⟩:=List.mem_map.1 hp
      obtain⟨i,hi⟩:=List.mem_iff_getElem?.1 hfm
      have h1:=hf i f (by simpa using hi)
      simp only at hokp ⊢
      cases hφ:T f.type with
      | none=>cases n with
       | zero=>cases hokp
       | succ n=>simp only[NY,hφ]at hokp;cases hokp
      | some φ =>
       rw[(hT _ φ hφ).cells]at h1
       have hi':i<ys.length:=by
        have:=(List.getElem?_eq_some_iff.1 hi).1
        simp only[Array.length_toList]at this
        omega
       rw[List.getElem?_eq_getElem hi']at h1
       obtain⟨zs,hz1,hz2⟩:=ih _ _ _ _ hokp h1 (hwy i f _ (by simpa using hi) (List.getElem?_eq_getElem hi'))
       exact⟨zs,fun _=>⟨φ,rfl,hz1,hz2⟩⟩
     ·exact⟨[],fun h=>(hp h).elim⟩
    obtain⟨f,hf2⟩:=Classical.axiomOfChoice hone
    obtain⟨xs,hx,hparts⟩:=Ms fs 0 τ.size f hok.1 hlen (fun p hp=>by obtain⟨φ,a,_,b⟩:=hf2 p hp;exact⟨φ,a,b⟩) (Nat.zero_le _)
    rw[List.drop_zero]at hx
    refine⟨xs,⟨by rw[hx.1,hlen],fun p hp =>?_⟩,hx⟩
    obtain⟨φ,h1,_,h3⟩:=hparts p hp
    obtain⟨ψ,g1,g2,_⟩:=hf2 p hp
    rw[h1]at g1
    cases g1
    rw[Nat.sub_zero]at h3
    exact⟨φ,h1,by rw[h3];exact g2⟩
   | arr m e =>
    rw[hds]at hok hc
    simp only[Bool.and_eq_true]at hok
    have hd':=uU hc
    subst hd'
    obtain⟨ys,k,_,rfl,hlen,hyl,hf⟩:=DataW.trod_array hd h
    have hwy:∀(i:Nat) y,ys[i]? = some y→Reach P e y.1:=by
     intro i y hyi k hk
     refine hw k ?_
     simp only[DataW.weights,hd]
     exact xm _ i y.1 (by simp[hyi]) k hk
    rw[(hT t τ hτ).cells]at hlen
    obtain⟨hok1,hok2⟩:=hok
    split at hok2
    ·rename_i φ hφ
     simp only[beq_iff_eq]at hok2
     have hone:∀i:Nat,∃zs,i<m→Gw T n e zs∧kr w M zs ((cs.drop (i*φ.size)).take φ.size):=by
      intro i
      by_cases hi:i<m
      ·have h1:=hf i hi
       rw[(hT _ φ hφ).cells,List.getElem?_eq_getElem (by omega)]at h1
       obtain⟨zs,hz1,hz2⟩:=ih _ _ _ _ hok1 h1 (hwy i _ (List.getElem?_eq_getElem (by omega)))
       exact⟨zs,fun _=>⟨hz1,hz2⟩⟩
      ·exact⟨[],fun h=>(hi h).elim⟩
     obtain⟨f,hf2⟩:=Classical.axiomOfChoice hone
     have hls:∀l∈(List.range m).map f,l.length=φ.size:=by
      intro l hl
      obtain⟨i,hi,rfl⟩:=List.mem_map.1 hl
      have hi:=List.mem_range.1 hi
      rw[(hf2 i hi).2.1,List.length_take,List.length_drop,hlen,hok2]
      have:(i+1)*φ.size≤m*φ.size:=Nat.mul_le_mul_right _ hi
      rw[Nat.succ_mul]at this
      omega
     have hget:∀(i:Nat) l,((List.range m).map f)[i]? = some l→i<m∧l=f i:=by
      intro i l hl
      rw[List.getElem?_map,Option.map_eq_some_iff]at hl
      obtain⟨j,hj,rfl⟩:=hl
      obtain⟨hj1,hj2⟩:=List.getElem?_eq_some_iff.1 hj
      simp only[List.length_range]at hj1
      simp only[List.getElem_range]at hj2
      exact⟨hj1,by rw[hj2]⟩
     have hall:kr w M ((List.range m).map f).flatten ((cs.drop 0).take (((List.range m).map f).length*φ.size)):=by
      refine kr.flat _ 0 (fun i l hl =>?_) hls
      obtain⟨hi,rfl⟩:=hget i l hl
      rw[Nat.zero_add]
      exact (hf2 i hi).2
     rw[List.length_map,List.length_range,List.drop_zero,List.take_of_length_le (by omega)]at hall
     refine⟨_,⟨by rw[hall.1,hlen],φ,hφ,fun i hi =>?_⟩,hall⟩
     have hi':((List.range m).map f)[i]? = some (f i):=by simp[hi]
     rw[AG φ.size _ hls i _ hi']
     exact (hf2 i hi).1
    ·cases hok2
   | slice e =>
    rw[hds]at hok hc
    simp only[Bool.and_eq_true,beq_iff_eq]at hok
    have hd':=eP hc
    subst hd'
    obtain⟨⟨hone,hoke⟩,hpos⟩:=hok
    split at hpos
    ·rename_i φ hφ
     simp only[decide_eq_true_eq]at hpos
     rcases open_slice hd h with⟨rfl,_⟩|⟨a,len,cap,m,k,D',Pl,rfl,hb,hl,hm,hmm,rfl,hi⟩
     ·refine⟨[.sl false false 0 []],⟨by rw[hone];rfl,0,[],φ,rfl,by omega,hφ,by simp,fun i hi=>by omega⟩,.one rfl ?_⟩
      exact .sl none 0 false false 0 [] (fun _=>undef) (Nat.le_refl _) (Nat.zero_le _) (fun h=>by cases h) (fun _=>⟨rfl,rfl⟩) (fun h=>by cases h) (fun h=>(h rfl).elim) (fun j x hj=>by simp at hj) (fun x hx=>by simp at hx)
     ·have hlm:len≤m:=by rw[hmm];split<;>omega
      have hwl:len*φ.bytes≤140737488351232:=by
       have h1:=hw ((((List.range len).map D').length+((List.range (m-len)).map fun j=>D' (len+j)).length)*P.bytesOf e) (by simp[DataW.weights,hd])
       rw[(hT _ φ hφ).bytesOf]at h1
       simp only[List.length_map,List.length_range]at h1
       exact Nat.le_trans (Nat.mul_le_mul_right _ (by omega)) h1
      have hwy:∀i,i<len→Reach P e (D' i):=by
       intro i hi' k hk
       refine hw k ?_
       simp only[DataW.weights,hd,List.mem_cons,List.mem_append]
       exact .inr (.inl (xm _ i (D' i) (by simp[hi']) k hk))
      have hone':∀i:Nat,∃zs,i<len→Gw T n e zs∧zs.length=φ.size∧∀(j:Nat) z,zs[j]? = some z→aO z=true∧∃v,w.cell? (a.add (i*φ.size+j))=some v∧RP w M z v:=by
       intro i
       by_cases hil:i<len
       ·obtain⟨cs',hc1,hc2⟩:=hi i (by omega)
        rw[(hT _ φ hφ).cells]at hc1
        obtain⟨_,g1,g2⟩:=World.cells?_some hc1
        obtain⟨zs,hz1,hz2⟩:=ih _ _ _ _ hoke hc2 (hwy i hil)
        refine⟨zs,fun _=>⟨hz1,by rw[hz2.1,g1],fun j z hj =>?_⟩⟩
        obtain⟨p1,v,p2,p3⟩:=hz2.2 j z hj
        refine⟨p1,v,?_,p3⟩
        have hj':j<φ.size:=by rw[← g1];exact (List.getElem?_eq_some_iff.1 p2).1
        rw[← Go.Deep.add_add,g2 j hj',p2]
       ·exact⟨[],fun h=>(hil h).elim⟩
      obtain⟨f,hf2⟩:=Classical.axiomOfChoice hone'
      have hls:∀l∈(List.range len).map f,l.length=φ.size:=by
       intro l hl
       obtain⟨i,hi,rfl⟩:=List.mem_map.1 hl
       exact (hf2 i (List.mem_range.1 hi)).2.1
      have hfl:((List.range len).map f).flatten.length=len*φ.size:=by rw[HJ φ.size _ hls];simp
      have hseg:∀i,i<len→(((List.range len).map f).flatten.drop (i*φ.size)).take φ.size=f i:=fun i hi=>AG φ.size _ hls i (f i) (by simp[hi])
      have hat:∀(p:Nat) z,((List.range len).map f).flatten[p]? = some z→aO z=true∧∃v,w.cell? (a.add p)=some v∧RP w M z v:=by
       intro p z hp
       have hpl:=(List.getElem?_eq_some_iff.1 hp).1
       rw[hfl]at hpl
       have hq:p / φ.size<len:=Nat.div_lt_of_lt_mul (by rwa [Nat.mul_comm])
       have hr:p % φ.size<φ.size:=Nat.mod_lt _ hpos
       have he:p / φ.size*φ.size+p % φ.size=p:=Nat.div_add_mod' p φ.size
       have hz:(f (p / φ.size))[p % φ.size]? = some z:=by
        rw[← hseg _ hq,List.getElem?_take,if_pos hr,List.getElem?_drop,he]
        exact hp
       have:=(hf2 _ hq).2.2 _ z hz
       rw[he]at this
       exact this
      refine⟨[.sl false false len ((List.range len).map f).flatten],⟨by rw[hone];rfl,len,_,φ,rfl,hwl,hφ,hfl,fun i hi=>by rw[hseg i hi];exact (hf2 i hi).1⟩,.one rfl ?_⟩
      refine .sl (some a) cap false false len _ (fun j=>(w.cell? (a.add j)).getD undef) hl hm (fun h=>by cases h) (fun h=>by cases h) (fun h=>by cases h) (fun hne =>?_) (fun j z hj =>?_) (fun z hz =>?_)
      ·have h0:0<((List.range len).map f).flatten.length:=List.length_pos_iff.2 hne
       obtain⟨_,v,hv,_⟩:=hat 0 _ (List.getElem?_eq_getElem h0)
       obtain⟨b,o,sp⟩:=a
       have hsp:sp=none:=by
        unfold World.cell? at hv
        split at hv
        ·split at hv
         ·cases hv
         ·rename_i h;simpa [Addr.add] using h
        ·cases hv
       subst hsp
       have hbs:b<w.heap.size:=by
        unfold World.cell? at hv
        split at hv
        ·rename_i hh;exact (Array.getElem?_eq_some_iff.1 hh).1
        ·cases hv
       refine⟨b,o,rfl,hbs,hM b hb hbs,fun j hj =>?_⟩
       obtain⟨_,v,hv,_⟩:=hat j _ (List.getElem?_eq_getElem hj)
       have ha:Addr.add ⟨b,o,none⟩ j=⟨b,o+j,none⟩:=by
        unfold Addr.add
        split
        ·rename_i h0;rw[h0];rfl
        ·rfl
       have hv':w.cell? ⟨b,o+j,none⟩=some v:=by rw[← ha];exact hv
       rw[hv']
       simp only[hv,Option.getD_some]
      ·obtain⟨_,v,hv,hr⟩:=hat j z hj
       rw[hv]
       exact hr
      ·obtain⟨j,hj⟩:=List.mem_iff_getElem?.1 hz
       exact (hat j z hj).1
    ·cases hpos
def qN (T:Nat→Option Ty) (n t:Nat) (d:D):Prop :=
 match T t with
 | some τ=>if τ.ds.nB then ∃xs,d=.agg xs∧Gw T n t xs else Gw T n t [d]
 | none=>False
theorem kr.agg {w:World} {M:Nat→Prop} {xs:List D} {cs:Array Value} (h:kr w M xs cs.toList):RP w M (.agg xs) (.agg cs):=by
 have:=RP.agg (w:=w) (M:=M) xs cs.toList h.1.symm (fun j x hj=>by
  obtain⟨_,v,h1,h2⟩:=h.2 j x hj
  simp only[List.getD,h1,Option.getD_some]
  exact h2) (fun x hx=>by
  obtain⟨j,hj⟩:=List.mem_iff_getElem?.1 hx
  exact (h.2 j x hj).1)
 simpa using this
theorem kr.single {w:World} {M:Nat→Prop} {xs:List D} {v:Value} (h:kr w M xs [v]):∃x,xs=[x]∧RP w M x v:=by
 match xs,h with
 | [],h=>have:=h.1;simp at this
 | [x],h=>obtain⟨_,u,h1,h2⟩:=h.2 0 x rfl;simp only[List.getElem?_cons_zero,Option.some.injEq]at h1;subst h1;exact⟨x,rfl,h2⟩
 | x::y::xs,h=>have:=h.1;simp at this
theorem R4 (hT:km P T) {M:Nat→Prop} (hM:∀b,base≤b→b<w.heap.size→¬M b) {n t b0:Nat} {v:Value} {d:DataW H} {ps:List MemPlace} (hok:NY T n t=true) (hv:Value.okWide P w .any b0 t v) (h:DataW.Trod enc P w base spare held t v d ps) (hw:Reach P t d) :
  ∃x,qN T n t x∧RP w M x v:=by
 obtain⟨fuel,h⟩:=h
 obtain⟨xs,h1,h2⟩:=TQ hT hM n t fuel _ _ hok h hw
 unfold qN
 cases n with
 | zero=>cases hok
 | succ n =>
 cases hτ:T t with
 | none=>simp only[NY,hτ]at hok;cases hok
 | some τ =>
  simp only
  obtain⟨d',hd,hc⟩:=under hT hτ
  cases hds:τ.ds with
  | int k =>
   rw[hds]at hc
   have hd':=uV hc
   subst hd'
   obtain⟨i,rfl⟩:=okWide_int hd hv
   obtain⟨x,rfl,hx⟩:=kr.single (v := .int k i) h2
   exact⟨x,by simpa [Ds.nB] using h1,hx⟩
  | bool =>
   rw[hds]at hc
   have hd':=so hc
   subst hd'
   obtain⟨i,rfl⟩:=okWide_bool hd hv
   obtain⟨x,rfl,hx⟩:=kr.single (v := .bool i) h2
   exact⟨x,by simpa [Ds.nB] using h1,hx⟩
  | str =>
   rw[hds]at hc
   have hd':=oE hc
   subst hd'
   obtain⟨i,rfl⟩:=okWide_string hd hv
   obtain⟨x,rfl,hx⟩:=kr.single (v := .string i) h2
   exact⟨x,by simpa [Ds.nB] using h1,hx⟩
  | slice e =>
   rw[hds]at hc
   have hd':=eP hc
   subst hd'
   obtain⟨a,len,cap,rfl⟩:=okWide_slice hd hv
   obtain⟨x,rfl,hx⟩:=kr.single (v := .slice a len cap) h2
   exact⟨x,by simpa [Ds.nB] using h1,hx⟩
  | struct fs =>
   rw[hds]at hc
   obtain⟨F,rfl,_⟩:=fO hc
   obtain⟨cs,rfl,_⟩:=okWide_struct hd hv
   exact⟨.agg xs,by simpa [Ds.nB] using h1,kr.agg h2⟩
  | arr m e =>
   rw[hds]at hc
   have hd':=uU hc
   subst hd'
   have:∃cs,v=.agg cs:=by
    unfold Value.okWide at hv
    rw[hd]at hv
    obtain⟨cs,h,_⟩:=hv
    exact⟨cs,h⟩
   obtain⟨cs,rfl⟩:=this
   exact⟨.agg xs,by simpa [Ds.nB] using h1,kr.agg h2⟩
  | map _ _=>simp only[NY,hτ,hds]at hok;cases hok
  | other=>simp only[NY,hτ,hds]at hok;cases hok
theorem Da (hT:km P T) {M:Nat→Prop} (hM:∀b,base≤b→b<w.heap.size→¬M b) {n b0:Nat} : ∀(ts:List TypeId) (vs:List Value) (ds:List (DataW H)) (ps:List MemPlace),DataW.TrodAll enc P w base spare held ts vs ds ps →
  (∀(j:Nat) t v,ts[j]? = some t→vs[j]? = some v→Value.okWide P w .any b0 t v)→(∀t∈ts,NY T n t=true)→(∀k∈DataW.weightsEach P ts ds,k≤140737488351232) →
  ∃ar:List D,ar.length=vs.length∧(∀(j:Nat) x,ar[j]? = some x→∃v,vs[j]? = some v∧RP w M x v)∧ar.length=ts.length∧∀(j:Nat) t,ts[j]? = some t→∃x,ar[j]? = some x∧qN T n t x
 | [],[],[],ps,_,_,_,_=>⟨[],rfl,fun j x hj=>by simp at hj,rfl,fun j t hj=>by simp at hj⟩
 | t::ts,v::vs,d::ds,ps,h,hv,hok,hw=>by
  obtain⟨p,q,h1,h2,_⟩:=h
  obtain⟨x,hx1,hx2⟩:=R4 hT hM (hok t (by simp)) (hv 0 t v rfl rfl) h1 (fun k hk=>hw k (by simp only[DataW.weightsEach,List.mem_append];exact .inl hk))
  obtain⟨ar,g1,g2,g3,g4⟩:=Da hT hM ts vs ds q h2 (fun j t' v' a b=>hv (j+1) t' v' (by simpa using a) (by simpa using b)) (fun t' ht=>hok t' (List.mem_cons_of_mem _ ht)) (fun k hk=>hw k (by simp only[DataW.weightsEach,List.mem_append];exact .inr hk))
  refine⟨x::ar,by simp[g1],fun j y hj =>?_,by simp[g3],fun j t' hj =>?_⟩
  ·cases j with
   | zero=>simp only[List.getElem?_cons_zero,Option.some.injEq]at hj;subst hj;exact⟨v,rfl,hx2⟩
   | succ j=>simpa using g2 j y (by simpa using hj)
  ·cases j with
   | zero=>simp only[List.getElem?_cons_zero,Option.some.injEq]at hj;subst hj;exact⟨x,rfl,hx1⟩
   | succ j=>simpa using g4 j t' (by simpa using hj)
 | [],[],_::_,_,h,_,_,_=>h.elim
 | [],_::_,_,_,h,_,_,_=>h.elim
 | _::_,[],_,_,h,_,_,_=>h.elim
 | _::_,_::_,[],_,h,_,_,_=>h.elim
end
end Go.Proofs.YtpkahnkoecbndaaGreatDoor.Am
namespace Go.Proofs.YtpkahnkoecbndaaGreatDoor.Am
open Go.RowKit Go.Deep Go.ChangeShapes Go.WideShapes Go.ChangeAt
set_option linter.unusedSimpArgs false
set_option linter.unusedVariables false
section
variable {H:Type} {enc:TypeId×Value→H} {P:Program}
theorem CQ {f:Func} {s:ChangeSpec} {apart fresh handsOn again:Bool} {W W':World} {args:Array Value} {v:Value} {ds gs:List (DataW H)} {before pa pv:List MemPlace}
  (hW:DataW.Whole enc P f.params.toList s.vars apart W args.toList ds gs before)
  (hres:∀(b:Nat) (sp:Nat→Bool) (hd:Bool),DataW.TrodAll enc P W' b sp hd f.resultTypes.toList (v.resultList f.resultTypes.size) (s.fn H (ds++gs)).results [])
  (hargs:∀sp:Nat→Bool,(∀p∈before,sp p.block=true)→DataW.TrodAll enc P W' 0 sp true f.params.toList args.toList (s.fn H (ds++gs)).args pa)
  (hvars:∀sp:Nat→Bool,(∀p∈before,sp p.block=true)→DataW.TrodVars enc P W' sp s.vars (s.fn H (ds++gs)).vars pv)
  (hps:before=pa++pv) (hb:Below W.heap.size W W')
  (hok:∀(j:Nat) (t:TypeId) (r:Value),f.resultTypes[j]? = some t→(v.resultList f.resultTypes.size)[j]? = some r→Value.okWide P W' .any 0 t r) :
  s.post enc P f apart fresh handsOn again W args v W':=by
 have hlt:∀p∈before,p.block<W.heap.size:=fun p hp=>hW.lt p hp
 have hold:∀p∈before,(fun b=>decide (b<W.heap.size)) p.block=true:=fun p hp=>by simpa using hlt p hp
 refine⟨ds,gs,before,[],pa,pv,hW,hres _ _ _,hargs _ hold,hvars _ hold,World.keptBut_mono (fun p hp=>⟨hp,?_⟩) (hb.frame (·∈before)),fun _ =>?_⟩
 ·rw[hps,List.mem_append]at hp
  exact Or.inr hp
 ·obtain⟨_,_,_,_,_,hz,hn⟩:=hW
  refine⟨hok,_,_,([]++pa)++pv,⟨[]++pa,pv,trodAll_append (hargs _ (fun _ _=>rfl)) (hres _ _ _),hvars _ (fun _ _=>rfl),rfl,?_,?_⟩,?_⟩
  ·intro b off hp
   have hin:MemPlace.cell b off∈before:=by rw[hps];simpa using hp
   rw[hb.frozen (hlt _ hin)]
   exact hz b off hin
  ·intro ha
   have:=hn ha
   rw[hps]at this
   simpa using this
  ·intro p hp _
   rw[hps]
   simpa using hp
theorem tZ (hl:laidOutB P=true) {W W':World} {sp':Nat→Bool} : ∀ {ts:List TypeId} {vs:List Value} {ds:List (DataW H)} {ps:List MemPlace},(∀t∈ts,P.readableRec t=true∧t<P.types.size)→DataW.TrodAll enc P W 0 (fun _=>true) true ts vs ds ps →
  (∀p∈ps,W.sameAt W' p)→(∀p∈ps,sp' p.block=true)→DataW.TrodAll enc P W' 0 sp' true ts vs ds ps
 | [],[],[],_,_,h,_,_=>h
 | t::ts,v::vs,d::ds,_,hr,⟨p,q,h1,h2,e⟩,hs,hp=>by
  subst e
  have ht:=hr t (by simp)
  exact⟨p,q,WideElems.Trod_stays hl ht.1 ht.2 h1 (fun x hx=>hs x (List.mem_append_left _ hx)) (fun x hx=>hp x (List.mem_append_left _ hx)),
   tZ hl (fun t ht=>hr t (List.mem_cons_of_mem _ ht)) h2 (fun x hx=>hs x (List.mem_append_right _ hx)) (fun x hx=>hp x (List.mem_append_right _ hx)),rfl⟩
end
theorem QA {H:Type} {enc:TypeId×Value→H} {C:Checked} {T:Nat→Option Ty} {f:FuncId} {fn:Func} {s:ChangeSpec} {apart fresh handsOn again:Bool} {tb n:Nat} (hT:km C.prog T)
  (hl:laidOutB C.prog=true) (hr:(fn.params.toList.all fun t=>C.prog.readableRec t&&decide (t<C.prog.types.size)&&NY T n t)=true)
  (hres:fn.resultTypes = #[tb]) (htb:C.prog.underlying tb=some .bool) (hv:s.vars=[])
  (hs:∀ds:List (DataW H),ds.length=fn.params.toList.length→(s.fn H ds).results=[.lit (.bool true)]∧(s.fn H ds).args=ds∧(s.fn H ds).vars=[])
  (law:∀ar:List D,ar.length=fn.params.toList.length→(∀(j:Nat) t,fn.params.toList[j]? = some t→∃x,ar[j]? = some x∧qN T n t x)→JZ C.prog f ar (.bool true))
  {W:World} {base:Nat} {args:Array Value} {ds gs:List (DataW H)} {before:List MemPlace}
  (hval:∀(j:Nat) t v,fn.params[j]? = some t→args[j]? = some v→Value.okWide C.prog W .any base t v) (hW:DataW.Whole enc C.prog fn.params.toList s.vars apart W args.toList ds gs before)
  (hsz:(DataW.weightsEach C.prog (fn.params.toList++s.plain.varTypes C.prog) (ds++gs)).all (·≤reachBytes)=true) (hTab:E5 W (fun _=>False)) :
  Calls C.prog f args W fun e W'=>∃v,e=.returned v∧s.post enc C.prog fn apart fresh handsOn again W args v W':=by
 have hW':=hW
 obtain⟨p,q,hA,hV,rfl,hfz,hnd⟩:=hW
 rw[hv]at hV
 obtain⟨rfl,rfl⟩:=trodVars_none hV
 simp only[List.all_eq_true,Bool.and_eq_true,decide_eq_true_eq]at hr
 obtain⟨ar,h1,h2,h3,h4⟩:=Da (P:=C.prog) hT (M:=fun _=>False) (fun b _ _ h=>h) (n:=n) (b0:=base) fn.params.toList args.toList ds p hA
  (fun j t v a b=>hval j t v (by simpa using a) (by simpa using b)) (fun t ht=>(hr t ht).2) (fun k hk=>by
   rw[List.all_eq_true]at hsz
   have hv0:s.plain.varTypes C.prog=[]:=by unfold ChangeSpec.plain;simp only[hv];rfl
   rw[hv0,List.append_nil,List.append_nil]at hsz
   have h:=hsz k hk
   rw[decide_eq_true_eq]at h
   exact h)
 refine (law ar h3 h4 W (fun _=>False) args (fun b h=>h.elim) ⟨by simpa using h1.symm,fun j x hj =>?_,hTab⟩).mono fun e W' hG =>?_
 ·obtain⟨v,g1,g2⟩:=h2 j x hj
  have g1':args[j]? = some v:=by simpa using g1
  rw[Array.getD_eq_getD_getElem?,g1']
  exact g2
 ·obtain⟨v,rfl,hb,hv1⟩:=hG
  have hv2:RP W' (fun _=>False) (.bool true) v:=hv1
  cases hv2
  have hlen:ds.length=fn.params.toList.length:=by
   have:∀ {ts:List TypeId} {vs:List Value} {ds:List (DataW H)} {ps:List MemPlace},DataW.TrodAll enc C.prog W 0 (fun _=>true) true ts vs ds ps→ds.length=ts.length:=by
    intro ts
    induction ts with
    | nil=>intro vs ds ps h;cases vs<;>cases ds<;>first|rfl|exact h.elim
    | cons t ts ih =>
     intro vs ds ps h
     cases vs with
     | nil=>exact h.elim
     | cons v vs=>cases ds with
      | nil=>exact h.elim
      | cons d ds=>obtain⟨_,_,_,h2,_⟩:=h;simp[ih h2]
   exact this hA
  obtain⟨e1,e2,e3⟩:=hs ds hlen
  refine⟨_,rfl,CQ (pa:=p) (pv:=[]) hW' ?_ ?_ ?_ (by simp) hb ?_⟩
  ·intro b sp hd
   rw[List.append_nil,e1,hres]
   exact trodAll_mk1 ⟨1,by simp[DataW.trod,htb,Value.cells]⟩
  ·intro sp hsp
   rw[List.append_nil,e2]
   refine tZ hl (fun t ht=>(hr t ht).1) hA (fun x hx=>hb.same (hW'.lt x (by simpa using hx))) (fun x hx=>hsp x (by simpa using hx))
  ·intro sp _
   rw[List.append_nil,e3,hv]
   rfl
  ·exact ok_one hres rfl (by simp[Value.okWide,htb,Cell.okWide,Cell.ok])
theorem QB {H:Type} {enc:TypeId×Value→H} {C:Checked} {os:Os} {T:Nat→Option Ty} {f:FuncId} {fn:Func} {s:ChangeSpec} {conds:List PathCond} {apart fresh handsOn again:Bool} {tb n:Nat} {X:World→Array Value→Prop}
  (hX:∀(w w':World) (args:Array Value),w.heap=w'.heap→X w args→X w' args) (hTab:∀(w:World) (args:Array Value),X w args→E5 w (fun _=>False))
  (hT:km C.prog T) (own:ownKnob C.prog.godebug=none) (started:os.Started) (noInit:C.prog.inits.idxOf? f=none) (hfn:C.prog.funcs[f]? = some fn)
  (witness:∃(w:World) (tape:Tape) (i:Input),w.os=os∧(w.forCall tape i).Shaped C.prog∧i.vars=[]∧Input.okWide C.prog (w.forCall tape i) .any w.heap.size f i ∧
   ((s.pre enc C.prog fn conds apart (w.forCall tape i).memory i.args∧X (w.forCall tape i).memory i.args)∧sizedMet enc C.prog fn (OpenSpec.ofChange s) apart (w.forCall tape i).memory i.args)∧({} : Assume).holds C.prog (lone (Frame.enter C.prog f i.args .normal) [] (w.forCall tape i)))
  (hl:laidOutB C.prog=true) (hr:(fn.params.toList.all fun t=>C.prog.readableRec t&&decide (t<C.prog.types.size)&&NY T n t)=true)
  (hres:fn.resultTypes = #[tb]) (htb:C.prog.underlying tb=some .bool) (hv:s.vars=[])
  (hs:∀ds:List (DataW H),ds.length=fn.params.toList.length→(s.fn H ds).results=[.lit (.bool true)]∧(s.fn H ds).args=ds∧(s.fn H ds).vars=[])
  (law:∀ar:List D,ar.length=fn.params.toList.length→(∀(j:Nat) t,fn.params.toList[j]? = some t→∃x,ar[j]? = some x∧qN T n t x)→JZ C.prog f ar (.bool true)) :
  ReturnsInHanded {} C os f .any (fun w args=>(s.pre enc C.prog fn conds apart w args∧X w args)∧sizedMet enc C.prog fn (OpenSpec.ofChange s) apart w args) (s.post enc C.prog fn apart fresh handsOn again):=by
 refine returnsInHanded_of_change_and hX own started noInit hfn witness ?_
 intro W base args ds gs before hval hW _ hsz hx _
 exact QA hT hl hr hres htb hv hs law hval hW hsz (hTab W args hx)
end Go.Proofs.YtpkahnkoecbndaaGreatDoor.Am
namespace Go.Proofs.YtpkahnkoecbndaaGreatDoor.Am
open Go.RowKit
set_option linter.unusedSimpArgs false
set_option linter.unusedVariables false
theorem UB {T:Nat→Option Ty} {n t:Nat} {ar:List D} (h:ar.length=[t].length) (hs:∀(j:Nat) u,[t][j]? = some u→∃x,ar[j]? = some x∧qN T n u x):∃a,ar=[a]∧qN T n t a:=by
 match ar,h with
 | [a],_=>obtain⟨x,h1,h2⟩:=hs 0 t rfl;cases h1;exact⟨a,rfl,h2⟩
theorem UC {T:Nat→Option Ty} {n t:Nat} {ts:List Nat} {ar:List D} (h:ar.length=(t::ts).length) (hs:∀(j:Nat) u,(t::ts)[j]? = some u→∃x,ar[j]? = some x∧qN T n u x) :
  ∃a WH,ar=a::WH∧qN T n t a∧WH.length=ts.length∧∀(j:Nat) u,ts[j]? = some u→∃x,WH[j]? = some x∧qN T n u x:=by
 match ar,h with
 | a::WH,h =>
  obtain⟨x,h1,h2⟩:=hs 0 t rfl
  cases h1
  exact⟨a,WH,rfl,h2,by simpa using h,fun j u hu=>by simpa using hs (j+1) u (by simpa using hu)⟩
section
variable {T:Nat→Option Ty} {n t:Nat} {τ:Ty} {d:D}
theorem R0 {k:IntKind} (h:qN T (n+1) t d) (hτ:T t=some τ) (hd:τ.ds=.int k):∃i,d=.int k i∧(Lit.int k i).wf=true:=by
 simp only[qN,hτ,hd,Ds.nB,Bool.false_eq_true,if_false,Gw]at h
 obtain⟨_,i,hi,hw⟩:=h
 cases hi
 exact⟨i,rfl,hw⟩
theorem Nn {e:Nat} (h:qN T n t d) (hτ:T t=some τ) (hd:τ.ds=.slice e):Gw T n t [d]:=by
 simp only[qN,hτ,hd,Ds.nB,Bool.false_eq_true,if_false]at h
 exact h
theorem SM {k:IntKind} {xs:List D} (h:Gw T (n+1) t xs) (hτ:T t=some τ) (hd:τ.ds=.int k):∃i,xs=[.int k i]∧(Lit.int k i).wf=true:=by
 simp only[Gw,hτ,hd]at h
 exact h.2
theorem Ol {e:Nat} {φ:Ty} {xs:List D} (h:Gw T (n+1) t xs) (hτ:T t=some τ) (hd:τ.ds=.slice e) (hφ:T e=some φ) :
  ∃len ys,xs=[.sl false false len ys]∧len*φ.bytes≤140737488351232∧ys.length=len*φ.size∧∀i,i<len→Gw T n e ((ys.drop (i*φ.size)).take φ.size):=by
 simp only[Gw,hτ,hd]at h
 obtain⟨_,len,ys,ψ,h1,h3,h4,h5,h6⟩:=h
 rw[hφ]at h4
 cases h4
 exact⟨len,ys,h1,h3,h5,h6⟩
end
end Go.Proofs.YtpkahnkoecbndaaGreatDoor.Am
namespace Go.Proofs.YtpkahnkoecbndaaGreatDoor.Am
open Go.RowKit Go.Proofs.YtpkahnkoecbndaaGreatDoor.P
set_option linter.unusedSimpArgs false
set_option linter.unusedVariables false
def TG {α:Type} (T:Nat→Option Ty) (n t:Nat) (E:kj α) (ok:α→Prop):Prop:=(∃φ,T t=some φ∧φ.size=E.size)∧∀xs,Gw T n t xs→∃x,xs=E.cells x∧ok x
section
variable {T:Nat→Option Ty} {n t:Nat} {τ:Ty}
theorem WG {k:IntKind} (hτ:T t=some τ) (hd:τ.ds=.int k) (hs:τ.size=1):TG T (n+1) t (eI k) (fun i=>(Lit.int k i).wf=true):=⟨⟨τ,hτ,hs⟩,fun _ h=>SM h hτ hd⟩
theorem Tu {α:Type} (E:kj α) (ok:α→Prop):∀(len:Nat) (ys:List D),ys.length=len*E.size→(∀i,i<len→∃x,(ys.drop (i*E.size)).take E.size=E.cells x∧ok x)→∃l:List α,l.length=len∧ys=ab E l∧∀x∈l,ok x
 | 0,ys,hl,_=>⟨[],rfl,by simpa [ab] using hl,fun x hx=>by simp at hx⟩
 | len+1,ys,hl,h=>by
  obtain⟨x,hx,hok⟩:=h 0 (by omega)
  obtain⟨l,h1,h2,h3⟩:=Tu E ok len (ys.drop E.size) (by rw[List.length_drop,hl,Nat.succ_mul];omega) (fun i hi=>by
   obtain⟨y,hy,hy2⟩:=h (i+1) (by omega)
   refine⟨y,?_,hy2⟩
   rw[List.drop_drop]
   rw[Nat.succ_mul,Nat.add_comm]at hy
   exact hy)
  rw[Nat.zero_mul,List.drop_zero]at hx
  refine⟨x::l,by simp[h1],?_,fun y hy =>?_⟩
  ·rw[aF,← h2,← hx,List.take_append_drop]
  ·rcases List.mem_cons.1 hy with rfl|hy
   ·exact hok
   ·exact h3 y hy
theorem UZ {α:Type} {E:kj α} {ok:α→Prop} {e:Nat} (hτ:T t=some τ) (hd:τ.ds=.slice e) (hs:τ.size=1) {B:Nat} (hB:(T e).map (·.bytes)=some B) (he:TG T n e E ok):TG T (n+1) t (jv E) (fun l=>l.length*B≤140737488351232∧∀x∈l,ok x):=by
 obtain⟨⟨φ,hφ,hz⟩,hx⟩:=he
 have hb:φ.bytes=B:=by rw[hφ]at hB;simpa using hB
 refine⟨⟨τ,hτ,hs⟩,fun xs h =>?_⟩
 obtain⟨len,ys,h1,h2,h3,h4⟩:=Ol h hτ hd hφ
 rw[hz]at h3 h4
 rw[hb]at h2
 obtain⟨l,k1,k2,k3⟩:=Tu E ok len ys h3 fun i hi=>hx _ (h4 i hi)
 subst k1 k2
 exact⟨l,h1,h2,k3⟩
def VN {α:Type} (T:Nat→Option Ty) (n t:Nat) (A:Arg α) (ok:α→Prop):Prop:=∀d,qN T n t d→∃x,d=A.d x∧ok x
theorem WE {k:IntKind} (hτ:T t=some τ) (hd:τ.ds=.int k):VN T (n+1) t (aI k) (fun i=>(Lit.int k i).wf=true):=fun _ h=>R0 h hτ hd
theorem T5 {α:Type} {E:kj α} {ok:List α→Prop} {e:Nat} (hτ:T t=some τ) (hd:τ.ds=.slice e) (hE:TG T n t (jv E) ok):VN T n t (gg E) ok:=fun d h=>by
 obtain⟨x,h1,h2⟩:=hE.2 _ (Nn h hτ hd)
 simp only[wR,List.cons.injEq,and_true]at h1
 exact⟨x,h1,h2⟩
def Oz {α:Type} (T:Nat→Option Ty) (n:Nat) (ts:List Nat) (A:lO α) (ok:α→Prop):Prop:=∀ar:List D,ar.length=ts.length→(∀(j:Nat) u,ts[j]? = some u→∃x,ar[j]? = some x∧qN T n u x)→∃x,ar=A.ds x∧ok x
theorem V9 {α:Type} {A:Arg α} {ok:α→Prop} (h:VN T n t A ok):Oz T n [t] (dJ A) ok:=fun ar hl hs=>by
 obtain⟨a,rfl,ha⟩:=UB hl hs
 obtain⟨x,rfl,hx⟩:=h a ha
 exact⟨x,rfl,hx⟩
theorem T6 {α β:Type} {A:Arg α} {ok:α→Prop} {B:lO β} {ok':β→Prop} {ts:List Nat} (h:VN T n t A ok) (h':Oz T n ts B ok'):Oz T n (t::ts) (dX A B) (fun x=>ok x.1∧ok' x.2):=fun ar hl hs=>by
 obtain⟨a,ar,rfl,ha,hl',hs'⟩:=UC hl hs
 obtain⟨x,rfl,hx⟩:=h a ha
 obtain⟨y,rfl,hy⟩:=h' ar hl' hs'
 exact⟨(x,y),rfl,hx,hy⟩
theorem T2 {P:Program} {f:FuncId} {α:Type} {A:lO α} {F:α→Option Bool} {ok:α→Prop} {ts:List Nat} (ho:Oz T n ts A ok) (hG:bI P f (ez A F (fun r =>.clean (.bool r)))) (h:∀x,ok x→F x=some true) (ar:List D) (hl:ar.length=ts.length)
  (hs:∀(j:Nat) u,ts[j]? = some u→∃x,ar[j]? = some x∧qN T n u x):JZ P f ar (.bool true):=by
 obtain⟨x,rfl,hx⟩:=ho ar hl hs
 refine hG.calls none _ _ none ?_
 rw[aE,h x hx]
 rfl
end
end Go.Proofs.YtpkahnkoecbndaaGreatDoor.Am
namespace Go.Proofs.YtpkahnkoecbndaaGreatDoor.P
open Go.RowKit
set_option linter.unusedSimpArgs false
set_option linter.unusedVariables false
def A0 (n:Int):ByteArray:=⟨(Lib.itoa n).toArray⟩
def UO (n:Int):Option ByteArray:=if -9223372036854775808≤n∧n≤9223372036854775807 then some (A0 n) else none
def eg (l:List Int):List UInt8:=l.flatMap fun x=>Lib.itoa x++[59]
def lB (l:List Int):List UInt8:=Lib.itoa l.length++(91::(eg l++[93]))
def MB (l:List Int):Option ByteArray:=if (∀x∈l,-9223372036854775808≤x∧x≤9223372036854775807)∧l.length*8≤140737488351232∧(lB l).length≤140737488355328 then some ⟨(lB l).toArray⟩ else none
def Fb (n:Int):Option ByteArray:=if -9223372036854775808≤n∧n≤0 then some ⟨(Lib.decDigits n.natAbs).toArray⟩ else none
def Mc (l:List Int):Option (List Int):=if l.length≤9223372036854775807 then some (Lib.compact l) else none
def zk (l:List Int):Option (List Int):=some l
def v7 (l:List Int):Option (List Int):=if l.length*8≤140737488351232 then some (fl l) else none
def PW {α:Type} (bytes:Nat) (l:List α) (i:Int) (xs:List α):Option (List α):=if 0≤i∧i≤l.length∧0<xs.length∧(l.length+xs.length)*bytes≤140737488355328 then some (l.take i.toNat++(xs++l.drop i.toNat)) else none
def Bl {α:Type} (mk:ByteArray→Int→Int→Int→Int→α) (val bl:α→Int) (l:List α) (p:Int×Int):Option α:=(P.idx l p.1).bind fun x=>(P.idx l p.2).bind fun y=>some (mk ⟨#[]⟩ (IntKind.i64.wrap (val x+val y)) (IntKind.i64.wrap (bl x+bl y)) p.1 p.2)
def J3 {α:Type} (_:List α) (x:α):Option α:=some x
end Go.Proofs.YtpkahnkoecbndaaGreatDoor.P
namespace Go.Proofs
open Go.Shelf
def Tryz.Ii:Go.Shelf.Ren:=⟨fun|189=>69|125=>107|257=>106|128=>148|129=>149|294=>139|295=>140|296=>141|297=>142|298=>143|299=>144|216=>145|300=>146|301=>147|328=>170|329=>171|330=>172|331=>173|332=>174|215=>166|343=>180|n=>n,fun|28=>25|3=>3|46=>141|0=>0|51=>176|53=>178|4=>4|183=>170|182=>169|131=>160|5=>5|9=>9|218=>185|222=>189|228=>195|229=>196|n=>n,fun|n=>n⟩
theorem Tryz.FG:Go.Proofs.Lays.n189 Tryz.prog Tryz.Ii:={
 mixed:=by kernel_rfl
 f125:=Tryz.func107.trans (congrArg some (by kernel_rfl))
 f128:=Tryz.func148.trans (congrArg some (by kernel_rfl))
 f129:=Tryz.func149.trans (congrArg some (by kernel_rfl))
 f189:=Tryz.func69.trans (congrArg some (by kernel_rfl))
 f215:=Tryz.func166.trans (congrArg some (by kernel_rfl))
 f216:=Tryz.func145.trans (congrArg some (by kernel_rfl))
 f257:=Tryz.func106.trans (congrArg some (by kernel_rfl))
 f294:=Tryz.func139.trans (congrArg some (by kernel_rfl))
 f295:=Tryz.func140.trans (congrArg some (by kernel_rfl))
 f296:=Tryz.func141.trans (congrArg some (by kernel_rfl))
 f297:=Tryz.func142.trans (congrArg some (by kernel_rfl))
 f298:=Tryz.func143.trans (congrArg some (by kernel_rfl))
 f299:=Tryz.func144.trans (congrArg some (by kernel_rfl))
 f300:=Tryz.func146.trans (congrArg some (by kernel_rfl))
 f301:=Tryz.func147.trans (congrArg some (by kernel_rfl))
 f328:=Tryz.func170.trans (congrArg some (by kernel_rfl))
 f329:=Tryz.func171.trans (congrArg some (by kernel_rfl))
 f330:=Tryz.func172.trans (congrArg some (by kernel_rfl))
 f331:=Tryz.func173.trans (congrArg some (by kernel_rfl))
 f332:=Tryz.func174.trans (congrArg some (by kernel_rfl))
 f343:=Tryz.func180.trans (congrArg some (by kernel_rfl))
 t0:=Tryz.underlying0
 a0:=Tryz.isAgg0
 z0:=Tryz.sizeOf0
 v0:=Tryz.zeroValue0
 t3:=Tryz.underlying3
 a3:=Tryz.isAgg3
 z3:=Tryz.sizeOf3
 v3:=Tryz.zeroValue3
 t4:=Tryz.underlying4
 a4:=Tryz.isAgg4
 z4:=Tryz.sizeOf4
 v4:=Tryz.zeroValue4
 t5:=Tryz.underlying5
 a5:=Tryz.isAgg5
 z5:=Tryz.sizeOf5
 v5:=Tryz.zeroValue5
 t9:=Tryz.underlying9
 a9:=Tryz.isAgg9
 z9:=Tryz.sizeOf9
 v9:=Tryz.zeroValue9
 t28:=Tryz.underlying25
 a28:=Tryz.isAgg25
 z28:=Tryz.sizeOf25
 v28:=Tryz.zeroValue25
 t46:=Tryz.underlying141
 a46:=Tryz.isAgg141
 z46:=Tryz.sizeOf141
 v46:=Tryz.zeroValue141
 t51:=Tryz.underlying176
 a51:=Tryz.isAgg176
 z51:=Tryz.sizeOf176
 v51:=Tryz.zeroValue176
 t53:=Tryz.underlying178
 a53:=Tryz.isAgg178
 z53:=Tryz.sizeOf178
 v53:=Tryz.zeroValue178
 t131:=Tryz.underlying160
 a131:=Tryz.isAgg160
 z131:=Tryz.sizeOf160
 v131:=Tryz.zeroValue160
 t182:=Tryz.underlying169
 a182:=Tryz.isAgg169
 z182:=Tryz.sizeOf169
 v182:=Tryz.zeroValue169
 t183:=Tryz.underlying170
 a183:=Tryz.isAgg170
 z183:=Tryz.sizeOf170
 v183:=Tryz.zeroValue170
 t218:=Tryz.underlying185
 a218:=Tryz.isAgg185
 z218:=Tryz.sizeOf185
 v218:=Tryz.zeroValue185
 t222:=Tryz.underlying189
 a222:=Tryz.isAgg189
 z222:=Tryz.sizeOf189
 v222:=Tryz.zeroValue189
 t228:=Tryz.underlying195
 a228:=Tryz.isAgg195
 z228:=Tryz.sizeOf195
 v228:=Tryz.zeroValue195
 t229:=Tryz.underlying196
 a229:=Tryz.isAgg196
 z229:=Tryz.sizeOf196
 v229:=Tryz.zeroValue196 }
def Tryz.FH:Go.Shelf.Ren:=⟨fun|171=>121|243=>161|246=>179|283=>181|284=>182|285=>183|286=>184|129=>149|317=>185|318=>186|319=>187|320=>188|337=>189|338=>190|n=>n,fun|3=>3|9=>9|2=>2|4=>4|171=>198|0=>0|53=>178|37=>148|5=>5|173=>200|212=>204|51=>176|20=>20|213=>205|46=>141|232=>206|233=>207|n=>n,fun|17=>0|18=>1|19=>2|n=>n⟩
theorem Tryz.P4:Go.Proofs.LaysM.n171 Tryz.prog Tryz.FH:={
 mixed:=by kernel_rfl
 f129:=Tryz.func149.trans (congrArg some (by kernel_rfl))
 f171:=Tryz.func121.trans (congrArg some (by kernel_rfl))
 f243:=Tryz.func161.trans (congrArg some (by kernel_rfl))
 f246:=Tryz.func179.trans (congrArg some (by kernel_rfl))
 f283:=Tryz.func181.trans (congrArg some (by kernel_rfl))
 f284:=Tryz.func182.trans (congrArg some (by kernel_rfl))
 f285:=Tryz.func183.trans (congrArg some (by kernel_rfl))
 f286:=Tryz.func184.trans (congrArg some (by kernel_rfl))
 f317:=Tryz.func185.trans (congrArg some (by kernel_rfl))
 f318:=Tryz.func186.trans (congrArg some (by kernel_rfl))
 f319:=Tryz.func187.trans (congrArg some (by kernel_rfl))
 f320:=Tryz.func188.trans (congrArg some (by kernel_rfl))
 f337:=Tryz.func189.trans (congrArg some (by kernel_rfl))
 f338:=Tryz.func190.trans (congrArg some (by kernel_rfl))
 t0:=Tryz.underlying0
 a0:=Tryz.isAgg0
 z0:=Tryz.sizeOf0
 v0:=Tryz.zeroValue0
 t2:=Tryz.underlying2
 a2:=Tryz.isAgg2
 z2:=Tryz.sizeOf2
 v2:=Tryz.zeroValue2
 t3:=Tryz.underlying3
 a3:=Tryz.isAgg3
 z3:=Tryz.sizeOf3
 v3:=Tryz.zeroValue3
 t4:=Tryz.underlying4
 a4:=Tryz.isAgg4
 z4:=Tryz.sizeOf4
 v4:=Tryz.zeroValue4
 t5:=Tryz.underlying5
 a5:=Tryz.isAgg5
 z5:=Tryz.sizeOf5
 v5:=Tryz.zeroValue5
 t9:=Tryz.underlying9
 a9:=Tryz.isAgg9
 z9:=Tryz.sizeOf9
 v9:=Tryz.zeroValue9
 t20:=Tryz.underlying20
 a20:=Tryz.isAgg20
 z20:=Tryz.sizeOf20
 v20:=Tryz.zeroValue20
 t37:=Tryz.underlying148
 a37:=Tryz.isAgg148
 z37:=Tryz.sizeOf148
 v37:=Tryz.zeroValue148
 t46:=Tryz.underlying141
 a46:=Tryz.isAgg141
 z46:=Tryz.sizeOf141
 v46:=Tryz.zeroValue141
 t51:=Tryz.underlying176
 a51:=Tryz.isAgg176
 z51:=Tryz.sizeOf176
 v51:=Tryz.zeroValue176
 t53:=Tryz.underlying178
 a53:=Tryz.isAgg178
 z53:=Tryz.sizeOf178
 v53:=Tryz.zeroValue178
 t171:=Tryz.underlying198
 a171:=Tryz.isAgg198
 z171:=Tryz.sizeOf198
 v171:=Tryz.zeroValue198
 t173:=Tryz.underlying200
 a173:=Tryz.isAgg200
 z173:=Tryz.sizeOf200
 v173:=Tryz.zeroValue200
 t212:=Tryz.underlying204
 a212:=Tryz.isAgg204
 z212:=Tryz.sizeOf204
 v212:=Tryz.zeroValue204
 t213:=Tryz.underlying205
 a213:=Tryz.isAgg205
 z213:=Tryz.sizeOf205
 t232:=Tryz.underlying206
 a232:=Tryz.isAgg206
 z232:=Tryz.sizeOf206
 v232:=Tryz.zeroValue206
 t233:=Tryz.underlying207
 a233:=Tryz.isAgg207
 z233:=Tryz.sizeOf207
 v233:=Tryz.zeroValue207
 g17:=by kernel_rfl
 g18:=by kernel_rfl
 g19:=by kernel_rfl
 i0:=by kernel_rfl
 i2:=by kernel_rfl
 i3:=by kernel_rfl
 i4:=by kernel_rfl
 i5:=by kernel_rfl
 i9:=by kernel_rfl
 i20:=by kernel_rfl
 i37:=by kernel_rfl
 i46:=by kernel_rfl
 i51:=by kernel_rfl
 i53:=by kernel_rfl
 i171:=by kernel_rfl
 i173:=by kernel_rfl
 i212:=by kernel_rfl
 i232:=by kernel_rfl
 i233:=by kernel_rfl
 m17:=by kernel_rfl
 m18:=by kernel_rfl
 m19:=by kernel_rfl }
def Tryz.xV:Go.Shelf.Ren:=⟨fun|169=>122|n=>n,fun|70=>147|9=>9|0=>0|72=>150|37=>148|127=>181|3=>3|5=>5|n=>n,fun|n=>n⟩
theorem Tryz.Sm:Go.Proofs.Lays.n169 Tryz.prog Tryz.xV:={
 mixed:=by kernel_rfl
 f169:=Tryz.func122.trans (congrArg some (by kernel_rfl))
 t0:=Tryz.underlying0
 a0:=Tryz.isAgg0
 z0:=Tryz.sizeOf0
 v0:=Tryz.zeroValue0
 t3:=Tryz.underlying3
 a3:=Tryz.isAgg3
 z3:=Tryz.sizeOf3
 v3:=Tryz.zeroValue3
 t9:=Tryz.underlying9
 a9:=Tryz.isAgg9
 z9:=Tryz.sizeOf9
 v9:=Tryz.zeroValue9
 t37:=Tryz.underlying148
 a37:=Tryz.isAgg148
 z37:=Tryz.sizeOf148
 v37:=Tryz.zeroValue148
 t70:=Tryz.underlying147
 a70:=Tryz.isAgg147
 z70:=Tryz.sizeOf147
 v70:=Tryz.zeroValue147
 t72:=Tryz.underlying150
 a72:=Tryz.isAgg150
 z72:=Tryz.sizeOf150
 v72:=Tryz.zeroValue150
 t127:=Tryz.underlying181
 a127:=Tryz.isAgg181
 z127:=Tryz.sizeOf181
 v127:=Tryz.zeroValue181 }
def Tryz.Ky:Go.Shelf.Ren:=⟨fun|20=>70|n=>n,fun|22=>25|3=>3|4=>4|0=>0|n=>n,fun|n=>n⟩
theorem Tryz.P3:Go.Proofs.Lays2.n20 Tryz.prog Tryz.Ky:={
 mixed:=by kernel_rfl
 f20:=Tryz.func70.trans (congrArg some (by kernel_rfl))
 t0:=Tryz.underlying0
 a0:=Tryz.isAgg0
 z0:=Tryz.sizeOf0
 v0:=Tryz.zeroValue0
 t3:=Tryz.underlying3
 a3:=Tryz.isAgg3
 z3:=Tryz.sizeOf3
 v3:=Tryz.zeroValue3
 t4:=Tryz.underlying4
 a4:=Tryz.isAgg4
 z4:=Tryz.sizeOf4
 v4:=Tryz.zeroValue4
 t22:=Tryz.underlying25
 a22:=Tryz.isAgg25
 z22:=Tryz.sizeOf25
 v22:=Tryz.zeroValue25
 i3:=by kernel_rfl }
def Tryz.Kz:Go.Shelf.Ren:=⟨fun|21=>85|27=>117|28=>118|35=>157|39=>177|n=>n,fun|22=>25|3=>3|4=>4|0=>0|n=>n,fun|n=>n⟩
theorem Tryz.T3:Go.Proofs.Lays2.n21 Tryz.prog Tryz.Kz:={
 mixed:=by kernel_rfl
 f21:=Tryz.func85.trans (congrArg some (by kernel_rfl))
 f27:=Tryz.func117.trans (congrArg some (by kernel_rfl))
 f28:=Tryz.func118.trans (congrArg some (by kernel_rfl))
 f35:=Tryz.func157.trans (congrArg some (by kernel_rfl))
 f39:=Tryz.func177.trans (congrArg some (by kernel_rfl))
 t0:=Tryz.underlying0
 a0:=Tryz.isAgg0
 z0:=Tryz.sizeOf0
 v0:=Tryz.zeroValue0
 t3:=Tryz.underlying3
 a3:=Tryz.isAgg3
 z3:=Tryz.sizeOf3
 v3:=Tryz.zeroValue3
 t4:=Tryz.underlying4
 a4:=Tryz.isAgg4
 z4:=Tryz.sizeOf4
 v4:=Tryz.zeroValue4
 t22:=Tryz.underlying25
 a22:=Tryz.isAgg25
 z22:=Tryz.sizeOf25
 v22:=Tryz.zeroValue25
 i3:=by kernel_rfl }
theorem Tryz.PC:Builder.Extra Tryz.prog Tryz.xV:={
 sizeBuilder:=by kernel_rfl
 liesBuilder:=by kernel_rfl
 t5:=Tryz.underlying5
 a5:=Tryz.isAgg5
 z5:=Tryz.sizeOf5
 v5:=Tryz.zeroValue5
 infoByte:=by kernel_rfl
 cellsByte:=by kernel_rfl
 sizeByte:=by kernel_rfl
 neB5:=by decide }
end Go.Proofs
namespace Go.Proofs.YtpkahnkoecbndaaGreatDoor.Am
open Go.RowKit Go.Proofs.YtpkahnkoecbndaaGreatDoor.P
set_option linter.unusedSimpArgs false
set_option linter.unusedVariables false
theorem Sk {α:Type} (E:kj α) {B:Nat} {l n:List α} {i:Int} {x:α} (h:PW B l i [x]=some n):0≤i∧i≤(l.length:Int)∧l.length+1=n.length∧n.length*B≤140737488355328 ∧
  (ab E l).take (i.toNat*E.size)++(E.cells x++(ab E l).drop (i.toNat*E.size))=ab E n:=by
 unfold PW at h
 split at h
 ·rename_i hc
  cases h
  obtain⟨h1,h2,-,h4⟩:=hc
  have hl:l.length+1=(l.take i.toNat++([x]++l.drop i.toNat)).length:=by simp;omega
  refine⟨h1,h2,hl,by rw[← hl];exact h4,?_⟩
  rw[fc,fc,eK,sq]
  simp[ab]
 ·cases h
theorem OB {w:World} {M:Nat→Prop} {k:IntKind} {n:Int} {u:Value} (h:RP w M (.int k n) u):u=.int k n:=by cases h;rfl
theorem E4 {w:World} {M:Nat→Prop} {k:IntKind} {l:List Int} {u:Value} (h:RP w M (.sl false false l.length (ab (eI k) l)) u) :
  ∃A c,u=.slice A l.length c∧l.length≤c∧c≤maxLen∧(A=none→l.length=0∧c=0)∧(l≠[]→∃b o,A=some ⟨b,o,none⟩∧b<w.heap.size∧¬M b∧∀j,j<l.length→w.cell? ⟨b,o+j,none⟩=some (.int k (l.getD j 0))):=by
 cases h with
 | sl A c nl tight n xs us h1 h2 h3 h4 h5 h6 h7 h8 =>
  refine⟨A,c,rfl,h1,h2,h4,fun hl =>?_⟩
  have hne:ab (eI k) l≠[]:=by
   intro he
   have:=congrArg List.length he
   rw[bS]at this
   exact hl (List.eq_nil_of_length_eq_zero this)
  obtain⟨b,o,rfl,hb,hM,hc⟩:=h6 hne
  refine⟨b,o,rfl,hb,hM,fun j hj =>?_⟩
  rw[hc j (by rw[bS];exact hj)]
  have hg:(ab (eI k) l)[j]? = some (.int k (l.getD j 0)):=by rw[gW];simp[List.getD,hj]
  rw[OB (h7 j _ hg)]
theorem Lp {vs:Array Value} (h:vs.size=1):vs = #[vs.getD 0 undef]:=by
 apply Array.ext
 ·simp[h]
 ·intro i h1 h2
  have:i=0:=by omega
  subst this
  simp[Array.getElem?_eq_getElem h1]
theorem SK {P:Program} {f:FuncId} {fn:Func} {α:Type} {A:Arg α} {F:α→Option ByteArray} (hf:P.funcs[f]? = some fn) (hc:(fn.name == "runtime.NumGoroutine")=false∧fn.body.isNone=false)
  (hC:∀x r,F x=some r→∀(w:World) (M:Nat→Prop) (u:Value),RP w M (A.d x) u→E5 w M→Calls P f #[u] w fun e w'=>e=.returned (.string r)∧Below w.heap.size w w'):bI P f (ez (dJ A) F (fun r =>.clean (.str r))) where
 callable:=⟨fn,hf,hc⟩
 calls lent ds rk out hg:=by
  obtain⟨rfl,rfl,a,r,rfl,hr,rfl⟩:=oL hg
  intro w M vs hM hargs
  have hsz:vs.size=1:=hargs.size
  rw[Lp hsz]
  refine (hC a r hr w M _ (hargs.at_ 0 _ rfl) hargs.tab).mono fun e w' ⟨he,hb⟩=>⟨_,he,hb,?_⟩
  exact RP.str r
def Uy (P:Program) (f:FuncId):Prop:=∀(n:Int) (w:World),-9223372036854775808≤n→n≤9223372036854775807→(∀b,p8=some b→∃ty fr,w.heap[b]? = some (.cells lV ty fr))→Calls P f #[.int .i64 n] w fun e w'=>e=.returned (.string (A0 n))∧Below w.heap.size w w'
def Ox (P:Program) (f:FuncId):Prop:=(∀(blk off cap:Nat) (zs:List Int) (w:World),Go.Sort.Holds (Value.int .i64) w blk off zs.toArray→zs.length≤9223372036854775807→zs.length≤cap →
 Calls P f #[.slice (some ⟨blk,off,none⟩) zs.length cap] w fun e w'=>e=.returned (.slice (some ⟨blk,off,none⟩) (Lib.compact zs).length cap)∧∃q,w'=Go.Sort.putRow (Value.int .i64) (Go.Sort.ahead w q) blk off (Lib.compact zs++List.replicate (zs.length-(Lib.compact zs).length) 0).toArray) ∧
 ∀(a:Option Addr) (cap:Nat) (w:World),Calls P f #[.slice a 0 cap] w fun e w'=>e=.returned (.slice a 0 cap)∧w'=w
theorem Dr (d:Array Int):∀m:Nat,(Lib.compactUpTo d m).length≤m
 | 0=>by simp[Lib.compactUpTo]
 | m+1=>by
  rw[Lib.compactUpTo_succ,List.length_append]
  have:=Dr d m
  split<;>simp<;>omega
theorem zV (l:List Int):(Lib.compact l).length≤l.length:=Dr _ _
theorem J9 {P:Program} {f:FuncId} {fn:Func} {ty:Nat} (hf:P.funcs[f]? = some fn) (hc:(fn.name == "runtime.NumGoroutine")=false∧fn.body.isNone=false) (hC:Ox P f) :
  bI P f (Tq ty (eI .i64) RQ (fun l (_:Unit)=>Mc l)) where
 callable:=⟨fn,hf,hc⟩
 calls lent ds rk out hg:=by
  obtain⟨pre,l,post,a,r,rfl,rfl,hr,rfl,rfl⟩:=IT hg
  unfold Mc at hr
  split at hr
  rotate_left
  ·cases hr
  rename_i hlen
  cases hr
  intro w M go u0 vs hM hgoM hz hmp hrow hlv hargs
  have hvs:vs = #[]:=by
   have:=hargs.1
   simpa [RQ] using this
  subst hvs
  have hle:=zV l
  have hnil:Lib.compact ([]:List Int)=[]:=by
   have:=zV ([]:List Int)
   exact List.eq_nil_of_length_eq_zero (Nat.le_zero.1 this)
  rcases hlv.2 ⟨0,0,[],false,false,false⟩ rfl rfl with⟨g,o',c,N,t,k0,k1,k2,k3,k4,k5⟩|⟨k0,hn0,A,k1⟩
  ·cases k0
   subst k1
   obtain⟨cs,h1,h2,h3⟩:=hrow
   simp only[List.length_append,bS]at h2
   have hN:N=cs.size:=by
    simp only[World.shape?,h1,Option.some.injEq,Prod.mk.injEq]at k5
    exact k5.2.symm
   have hone:(eI IntKind.i64).size=1:=rfl
   by_cases hl:l=[]
   ·subst hl
    refine (hC.2 _ c w).mono fun e w' ⟨he,hw⟩ =>?_
    subst hw
    rw[hnil]
    refine⟨_,he,⟨rfl,rfl,rfl,Nat.le_refl _,fun k _ _=>rfl⟩,trivial,?_⟩
    by_cases hcc:0<c∨pre.length=0
    ·obtain⟨k6,k7⟩:=k2 hcc
     exact .inl ⟨(g.1,o'),c,cs,rfl,.inr ⟨g,rfl,rfl⟩,h1,Nat.zero_le _,k4,by rw[hone]at *;omega,by rw[hone]at *;simp[ab];omega,fun j d hj=>by simp[ab]at hj⟩
    ·have:c=0:=by omega
     subst this
     exact .inr ⟨rfl,rfl,_,rfl⟩
   ·have hpos:0<l.length:=List.length_pos_iff.2 hl
    obtain⟨k6,k7⟩:=k2 (.inl (by omega))
    subst k6
    have hcell:∀j,j<l.length→cs.getD (g.2+(pre.length+j)) undef=.int .i64 (l.getD j 0):=by
     intro j hj
     have hd:(pre++(ab (eI .i64) l++post))[pre.length+j]? = some (.int .i64 (l.getD j 0)):=by
      rw[List.getElem?_append_right (by omega),Nat.add_sub_cancel_left,List.getElem?_append_left (by rw[bS];exact hj),gW]
      simp[List.getD,hj]
     obtain⟨_,hp⟩:=h3 _ _ hd
     exact OB hp
    have hH:Go.Sort.Holds (Value.int .i64) w g.1 (g.2+pre.length) l.toArray:=by
     intro j hj
     simp only[List.size_toArray]at hj
     refine⟨?_,by simp[World.frozen?,h1]⟩
     have:=bf h1 (j:=g.2+pre.length+j) (by omega)
     rw[this,Nat.add_assoc,hcell j hj]
     simp[List.getD,hj]
    refine (hC.1 g.1 (g.2+pre.length) c l w hH hlen k3).mono fun e w' ⟨he,q,hw⟩ =>?_
    subst hw
    have hdl:(Lib.compact l++List.replicate (l.length-(Lib.compact l).length) 0).length=l.length:=by simp;omega
    have hnew:(Go.Sort.putRow (Value.int .i64) (Go.Sort.ahead w q) g.1 (g.2+pre.length) (Lib.compact l++List.replicate (l.length-(Lib.compact l).length) 0).toArray).heap[g.1]? = some (.cells (Go.Sort.putCells (Value.int .i64) (g.2+pre.length) (Lib.compact l++List.replicate (l.length-(Lib.compact l).length) 0).toArray cs) ty (0,0)):=rZ h1
    have hsz:(Go.Sort.putCells (Value.int .i64) (g.2+pre.length) (Lib.compact l++List.replicate (l.length-(Lib.compact l).length) 0).toArray cs).size=cs.size:=by simp[Go.Sort.putCells]
    refine⟨_,he,⟨rfl,rfl,rfl,by simp[Go.Sort.ahead],fun k hk hn =>?_⟩,trivial,.inl ⟨(g.1,g.2+pre.length),c,_,rfl,.inr ⟨g,rfl,rfl⟩,hnew,by omega,k4,?_,?_,fun j d hj =>?_⟩⟩
    ·exact j4 fun e=>hn ⟨g,rfl,e⟩
    ·rw[hsz,hone];rw[hone]at k7;omega
    ·rw[hsz,bS];simp only;omega
    ·have hjl:=(List.getElem?_eq_some_iff.1 hj).1
     rw[bS]at hjl
     rw[gW,Option.map_eq_some_iff]at hj
     obtain⟨z,hz,rfl⟩:=hj
     simp only
     rw[pQ (by omega),hdl,if_pos (by omega)]
     have e1:g.2+pre.length+j-(g.2+pre.length)=j:=by omega
     have e2:(Lib.compact l++List.replicate (l.length-(Lib.compact l).length) 0).getD j 0=z:=by rw[List.getD_eq_getElem?_getD,List.getElem?_append_left hjl,hz];rfl
     rw[e1,e2]
     exact⟨rfl,.int _ _⟩
  ·subst k1
   have hl:l=[]:=List.eq_nil_of_length_eq_zero hn0
   subst hl
   refine (hC.2 _ 0 w).mono fun e w' ⟨he,hw⟩ =>?_
   subst hw
   rw[hnil]
   exact⟨_,he,⟨rfl,rfl,rfl,Nat.le_refl _,fun k _ _=>rfl⟩,trivial,.inr ⟨rfl,rfl,_,rfl⟩⟩
theorem gH (b:Nat) {ty:Nat} {fr:Nat×Nat} : ∀(vs:List Value) (o:Nat) (w:World) (arr:Array Value),w.heap[b]? = some (.cells arr ty fr)→o+vs.length≤arr.size →
  (w.setCells b o vs).os=w.os∧(w.setCells b o vs).tape=w.tape∧(w.setCells b o vs).output=w.output∧(w.setCells b o vs).heap.size=w.heap.size∧(∀k,k≠b→(w.setCells b o vs).heap[k]? = w.heap[k]?) ∧
  ∃arr',(w.setCells b o vs).heap[b]? = some (.cells arr' ty fr)∧arr'.size=arr.size∧∀j,arr'[j]? = if o≤j∧j<o+vs.length then vs[j-o]? else arr[j]?
 | [],o,w,arr,h,_=>⟨rfl,rfl,rfl,rfl,fun k _=>rfl,arr,h,rfl,fun j=>by rw[if_neg (by simp)]⟩
 | v::r,o,w,arr,h,hl=>by
  simp only[List.length_cons]at hl
  have h1:(w.setCell ⟨b,o,none⟩ v).heap[b]? = some (.cells (arr.setIfInBounds o v) ty fr):=by
   simp[World.setCell,Array.getElem?_modify,h]
  obtain⟨e1,e2,e3,e4,e5,arr',e6,e7,e8⟩:=gH b r (o+1) (w.setCell ⟨b,o,none⟩ v) _ h1 (by simp;omega)
  refine⟨e1,e2,e3,e4.trans (by simp[World.setCell]),fun k hk=>(e5 k hk).trans (by simp[World.setCell,Array.getElem?_modify,Ne.symm hk]),arr',e6,by simpa using e7,fun j =>?_⟩
  rw[e8 j,Array.getElem?_setIfInBounds]
  simp only[List.length_cons]
  by_cases h1:o+1≤j∧j<o+1+r.length
  ·rw[if_pos h1,if_pos (by omega)]
   have:j-o=(j-(o+1))+1:=by omega
   rw[this,List.getElem?_cons_succ]
  ·rw[if_neg h1]
   by_cases h2:o=j
   ·subst h2
    rw[if_pos rfl,if_pos (by omega),if_pos (by omega),Nat.sub_self]
    rfl
   ·rw[if_neg h2,if_neg (by omega)]
open Go.Shelf in
theorem NI {P:Program} {ρ:Ren} (L:Lays2.n21 P ρ) {fn:Func} (hf:P.funcs[ρ.f 21]? = some fn) (hc:(fn.name == "runtime.NumGoroutine")=false∧fn.body.isNone=false):Oy P (ρ.f 21) (ρ.t 3,1,8) where
 callable:=⟨fn,hf,hc⟩
 pos:=Nat.one_pos
 calls w go go' u u' i n m cs cs' h1 h2 hne hl hl' ho ho' hi hm hmax:=by
  simp only[Nat.mul_one]at *
  obtain⟨g',c',arr',rfl,rfl,b1,b2,b3,b4,b5⟩:∃g c arr,go'=some g∧u'=.slice (some ⟨g.1,g.2,none⟩) m c∧w.heap[g.1]? = some (.cells arr (ρ.t 3) (0,0))∧c*1+g.2=arr.size∧m≤c∧c≤maxLen∧∀(j:Nat) x,cs'[j]? = some x→arr[g.2+j]? = some x:=by
   rcases h2 with⟨g,c,arr,k⟩|⟨_,rfl,_⟩
   ·exact⟨g,c,arr,by simpa using k⟩
   ·omega
  have hvs:∀(j:Nat) v,cs'[j]? = some v→w.cell? ⟨g'.1,g'.2+j,none⟩=some v:=fun j v hj=>by simp[World.cell?,b1,b5 j v hj]
  rcases h1 with⟨g,c,arr,rfl,rfl,a1,a2,a3,a4,a5⟩|⟨rfl,rfl,rfl,A,rfl⟩
  ·have hcs:∀(j:Nat) v,cs[j]? = some v→w.cell? ⟨g.1,g.2+j,none⟩=some v:=fun j v hj=>by simp[World.cell?,a1,a5 j v hj]
   have hfz:∀j,w.frozen? ⟨g.1,j,none⟩=false:=fun j=>by simp[World.frozen?,a1]
   have hbb:g.1≠g'.1:=hne g g' rfl rfl
   have hlt:g.1<w.heap.size:=(Array.getElem?_eq_some_iff.1 a1).1
   have hsp:∀j,j<n+m→n+m≤c→(w.cell? ⟨g.1,g.2+j,none⟩).isSome=true:=fun j hj hr=>by
    simp only[World.cell?,a1]
    rw[Array.getElem?_eq_getElem (by omega)]
    rfl
   by_cases hin:i=n
   ·subst hin
    have ht:cs.take i=cs:=List.take_of_length_le (by omega)
    have hd:cs.drop i=[]:=List.drop_eq_nil_of_le (by omega)
    rw[ht,hd,List.append_nil]
    by_cases hroom:i+m≤c
    ·refine (Any2.slices_Insert_int_end_room L g.1 g.2 i c g'.1 g'.2 m c' cs' w hm hroom (by unfold maxLen at a4;omega) hl' (fun j hj=>by have:=hsp (i+j) (by omega) hroom;rwa [← Nat.add_assoc]at this) (fun j _=>hfz _) hvs ho').mono fun e w' ⟨he,hw⟩ =>?_
     subst hw
     obtain⟨e1,e2,e3,e4,e5,arr2,e6,e7,e8⟩:=gH g.1 cs' (g.2+i) w arr a1 (by omega)
     refine⟨_,he,⟨e1,e2,e3,by omega,fun k hk hn=>e5 k (fun h=>hn ⟨g,rfl,h⟩)⟩,g,c,arr2,rfl,.inr ⟨g,rfl,rfl⟩,e6,hroom,a4,by omega,fun j x hj =>?_⟩
     rw[e8]
     by_cases hj2:j<i
     ·rw[if_neg (by omega)]
      rw[List.getElem?_append_left (by omega)]at hj
      exact a5 j x hj
     ·have hjl:=(List.getElem?_eq_some_iff.1 hj).1
      rw[List.length_append]at hjl
      rw[List.getElem?_append_right (by omega)]at hj
      rw[if_pos (by omega)]
      rw[← hj];congr 1;omega
    ·refine (Any2.slices_Insert_int_end_grow L (some ⟨g.1,g.2,none⟩) i c g'.1 g'.2 m c' cs cs' w hm a3 (by omega) hmax hl hl' (fun h=>by cases h) (fun a ha j v hj=>by cases ha;rw[Addr.add_lit];exact hcs j v hj) hvs ho').mono fun e w' ⟨he,hw⟩ =>?_
     subst hw
     have hge:=grownCap_ge w (i+m) c (ρ.t 3)
     refine⟨_,he,bZ.oO ((Below.refl _ w).drew.alloc (by simp) _),(w.heap.size,0),_,_,rfl,.inl (Nat.le_refl _),heap_alloc_new w.drew _,hge,grownCap_le_maxLen _ _ _ _ (by unfold maxLen;omega),?_,fun j x hj =>?_⟩
     ·simp[Builtin.zeroCells,Value.cells];omega
     ·have hjl:=(List.getElem?_eq_some_iff.1 hj).1
      rw[Nat.zero_add,Array.getElem?_append_left (by simpa using hjl)]
      simpa using hj
   ·have hin':i<n:=by omega
    by_cases hroom:n+m≤c
    ·refine (Any2.slices_Insert_int_shift L g.1 g.2 n c i g'.1 g'.2 m c' cs cs' w hin' hm hroom (by unfold maxLen at a4;omega) (Ne.symm hbb) hl hl' hcs (fun j hj=>hsp j hj hroom) (fun j _=>hfz _) hvs ho ho' (ρ.t 3) (ρ.t 3) arr'.size arr.size (by simp[World.shape?,b1]) (by simp[World.shape?,a1]) (by omega) (by simp[World.frozen?,b1]) (by simp[World.frozen?,b1])).mono fun e w' ⟨he,hw⟩ =>?_
     subst hw
     obtain⟨e1,e2,e3,e4,e5,arr2,e6,e7,e8⟩:=gH g.1 (cs.drop i) (g.2+(i+m)) w.drew arr a1 (by simp;omega)
     obtain⟨f1,f2,f3,f4,f5,arr3,f6,f7,f8⟩:=gH g.1 cs' (g.2+i) _ arr2 e6 (by omega)
     refine⟨_,he,⟨f1.trans e1,f2.trans e2,f3.trans e3,by rw[f4,e4];exact Nat.le_refl _,fun k hk hn=>(f5 k (fun h=>hn ⟨g,rfl,h⟩)).trans (e5 k (fun h=>hn ⟨g,rfl,h⟩))⟩,g,c,arr3,rfl,.inr ⟨g,rfl,rfl⟩,f6,hroom,a4,by omega,fun j x hj =>?_⟩
     have hjl:=(List.getElem?_eq_some_iff.1 hj).1
     simp only[List.length_append,List.length_take,List.length_drop]at hjl
     rw[f8,e8]
     by_cases hj1:j<i
     ·rw[List.getElem?_append_left (by rw[List.length_take];omega),List.getElem?_take,if_pos hj1]at hj
      rw[if_neg (by omega),if_neg (by simp;omega)]
      exact a5 j x hj
     ·rw[List.getElem?_append_right (by rw[List.length_take];omega),List.length_take,Nat.min_eq_left (by omega)]at hj
      by_cases hj2:j<i+m
      ·rw[List.getElem?_append_left (by omega)]at hj
       rw[if_pos (by omega),← hj];congr 1;omega
      ·rw[List.getElem?_append_right (by omega)]at hj
       rw[if_neg (by omega),if_pos (by simp;omega),← hj];congr 1;omega
    ·refine (Any2.slices_Insert_int_grow L g.1 g.2 n c i g'.1 g'.2 m c' cs cs' w hin' hm a3 (by omega) hmax hl hl' hcs hvs ho ho').mono fun e w' ⟨he,hw⟩ =>?_
     subst hw
     have hge:=grownCap_ge w (n+m) c (ρ.t 3)
     generalize hG:grownCap w (n+m) c (ρ.t 3)=G at *
     generalize hR:((cs.take i).toArray++Builtin.zeroCells (Value.int .i64 0).cells (n+m-i)++Builtin.zeroCells (Value.int .i64 0).cells (G-(n+m)))=R
     have hRs:R.size=G:=by subst hR;simp[Builtin.zeroCells,Value.cells];omega
     have hR0:∀j,j<i→R[j]? = cs[j]?:=fun j hj=>by
      subst hR
      rw[Array.append_assoc,Array.getElem?_append_left (by simp;omega)]
      simp[List.getElem?_take,hj]
     have hw0:(w.alloc (.cells R (ρ.t 3))).drew.heap[w.heap.size]? = some (.cells R (ρ.t 3) (0,0)):=heap_alloc_new w _
     obtain⟨e1,e2,e3,e4,e5,arr2,e6,e7,e8⟩:=gH w.heap.size cs' i _ R hw0 (by omega)
     obtain⟨f1,f2,f3,f4,f5,arr3,f6,f7,f8⟩:=gH w.heap.size (cs.drop i) (i+m) (((w.alloc (.cells R (ρ.t 3))).drew.setCells w.heap.size i cs').drew) arr2 e6 (by simp;omega)
     refine⟨_,he,⟨f1.trans e1,f2.trans e2,f3.trans e3,?_,fun k hk hn =>?_⟩,(w.heap.size,0),G,arr3,rfl,.inl (Nat.le_refl _),f6,hge,hG ▸ grownCap_le_maxLen _ _ _ _ (by unfold maxLen;omega),by simp only;omega,fun j x hj =>?_⟩
     ·rw[f4]
      show _≤((w.alloc (.cells R (ρ.t 3))).drew.setCells w.heap.size i cs').heap.size
      rw[e4]
      show _≤(w.alloc (.cells R (ρ.t 3))).heap.size
      simp
     ·rw[f5 k (by omega)]
      show ((w.alloc (.cells R (ρ.t 3))).drew.setCells w.heap.size i cs').heap[k]? = _
      rw[e5 k (by omega)]
      exact Below.heap_alloc w _ k hk
     ·have hjl:=(List.getElem?_eq_some_iff.1 hj).1
      simp only[List.length_append,List.length_take,List.length_drop]at hjl
      rw[Nat.zero_add,f8,e8]
      by_cases hj1:j<i
      ·rw[List.getElem?_append_left (by rw[List.length_take];omega),List.getElem?_take,if_pos hj1]at hj
       rw[if_neg (by omega),if_neg (by omega),hR0 j hj1,hj]
      ·rw[List.getElem?_append_right (by rw[List.length_take];omega),List.length_take,Nat.min_eq_left (by omega)]at hj
       by_cases hj2:j<i+m
       ·rw[List.getElem?_append_left (by omega)]at hj
        rw[if_neg (by omega),if_pos (by omega),← hj]
       ·rw[List.getElem?_append_right (by omega)]at hj
        rw[if_pos (by simp;omega),← hj];congr 1;omega
  ·have hi0:i=0:=by omega
   subst hi0
   refine (Any2.slices_Insert_int_end_grow L A 0 0 g'.1 g'.2 m c' [] cs' w hm (Nat.le_refl _) (by omega) (by omega) rfl hl' (fun _=>rfl) (fun a ha j v hj=>by simp at hj) hvs ho').mono fun e w' ⟨he,hw⟩ =>?_
   subst hw
   have hge:=grownCap_ge w (0+m) 0 (ρ.t 3)
   refine⟨_,he,bZ.oO ((Below.refl _ w).drew.alloc (by simp) _),(w.heap.size,0),_,_,rfl,.inl (Nat.le_refl _),heap_alloc_new w.drew _,hge,grownCap_le_maxLen _ _ _ _ (by unfold maxLen;omega),?_,fun j x hj =>?_⟩
   ·have hge':=hge
    simp only[Nat.zero_add]at hge'
    simp[Builtin.zeroCells,Value.cells];omega
   ·simp only[List.take_nil,List.drop_nil,List.nil_append,List.append_nil]at hj
    have hjl:=(List.getElem?_eq_some_iff.1 hj).1
    rw[Nat.zero_add,Array.getElem?_append_left (by simpa using hjl)]
    simpa using hj
end Go.Proofs.YtpkahnkoecbndaaGreatDoor.Am
namespace Go.Proofs.YtpkahnkoecbndaaGreatDoor.Am
open Go.RowKit Go.Shelf Go.Proofs.YtpkahnkoecbndaaGreatDoor.P
set_option linter.unusedSimpArgs false
set_option linter.unusedVariables false
attribute [local go_sem] Oper.semAt_some
def upto (f:Nat→Int) (k:Nat):List Int:=(List.range k).map f
theorem sW (f:Nat→Int) (k:Nat):upto f (k+1)=upto f k++[f k]:=by simp[upto,List.range_succ]
theorem JQ (f:Nat→Int) (k:Nat):(upto f k).length=k:=by simp[upto]
theorem RD (zs:List Int):upto (fun j=>zs[j]?.getD 0) zs.length=zs:=by
 apply List.ext_getElem
 ·simp[upto]
 ·intro i h1 h2
  simp[upto,h2]
theorem Om (zs:List Int) {k:Nat} (hk:k≤zs.length):upto (fun j=>zs[j]?.getD 0) k=zs.take k:=by
 apply List.ext_getElem
 ·simp[upto,hk]
 ·intro i h1 h2
  have:i<zs.length:=by simp[upto]at h1;omega
  simp[upto,this]
set_option maxRecDepth 100000 in
set_option maxHeartbeats 2000000 in
theorem Lm (F:Fence) (n:Nat) (h7:F.fn 156) (hro:F.round=none) (hn:1≤n) (l Bs Bo n₀ b off len cap:Nat) (zs:List Int) (hreach:len*8≤140737488351232) (hb:b<n₀) (J Jx:List Int→World→Prop)
  (hY:∀pre x W,J pre W→pre.length<len→YieldAt F (n-1) Tryz.prog l #[.int .i64 x] W fun e W' =>
   (e=.returned (.bool true)∧J (pre++[x]) W'∧Below n₀ W W')∨(e=.returned (.bool false)∧Jx (pre++[x]) W'))
  (W:World) (hBs:W.cell? ⟨Bs,Bo,none⟩=some (.slice (some ⟨b,off,none⟩) len cap)) (hc:∀j,j<len→W.cell? ⟨b,off+j,none⟩=some (.int .i64 (zs[j]?.getD 0))) (h0:J [] W) :
  CallsIn F n Tryz.prog 156 #[.func (.yield l) #[] #[],.pointer (some ⟨Bs,Bo,none⟩)] W fun e W'=>(∃v,e=.returned v) ∧
   ((∃ys,ys=upto (fun j=>zs[j]?.getD 0) len∧J ys W')∨(∃pre,(∃k,k≤len∧pre=upto (fun j=>zs[j]?.getD 0) k)∧Jx pre W')):=by
 refine callsIn_of_wp Tryz.func156 rfl h7 ?_ hro
 simp only[Tryz.ntmps156,List.size_toArray,List.length_cons,List.length_nil,Nat.reduceAdd,Nat.reduceSub,Array.replicate_succ,Array.replicate_zero,List.push_toArray,List.append_toArray,List.nil_append,List.cons_append]
 gi_wp2
 gi_loopw [7] (fun i wr=>∃k:Nat,k≤len∧i=.int .i64 k∧J (upto (fun j=>zs[j]?.getD 0) k) wr∧Below n₀ W wr)
  (fun i _=>len-(intOf i).toNat)
 case atStart=>exact⟨0,Nat.zero_le _,rfl,h0,Below.refl _ _⟩
 case round =>
  obtain⟨k,hk,rfl,hJs,hnx⟩:=hrel
  have hcx:k<len→wr.cell? ⟨b,off+k,none⟩=some (.int .i64 (zs[k]?.getD 0)):=fun h=>(hnx.cell (p:=⟨b,off+k,none⟩) hb).trans (hc k h)
  by_cases hlt:k<len
  ·obtain⟨fn,tmps,assign,body,hy,hR⟩:=hY _ (zs[k]?.getD 0) wr hJs (by rw[JQ];exact hlt)
   have hcx':=hcx hlt
   gi_wp2
   refine hR.mono ?_
   rintro e W3 (⟨rfl,hJ3,hk3⟩|⟨rfl,hJx3⟩)
   ·gi_wp2
    go_roundw
    case rel=>exact⟨k+1,by omega,by simp,by rw[sW];exact hJ3,hnx.trans hk3⟩
    case measure=>simp[intOf];omega
   ·gi_wp2
    refine bodyPost_ret (results_none rfl _ _ _) rfl ?_
    exact⟨⟨_,rfl⟩,.inr ⟨_,⟨k+1,by omega,(sW _ _).symm⟩,hJx3⟩⟩
  ·obtain rfl:k=len:=by omega
   gi_wp2
   go_end0
   exact⟨⟨_,rfl⟩,.inl ⟨_,rfl,hJs⟩⟩
set_option maxRecDepth 100000 in
set_option maxHeartbeats 1000000 in
theorem B7 (F:Fence) (n:Nat) (h7:F.fn 156) (hro:F.round=none) (l Bs Bo cap:Nat) (A:Option Addr) (J:List Int→World→Prop) (W:World) (hBs:W.cell? ⟨Bs,Bo,none⟩=some (.slice A 0 cap)) (h0:J [] W) :
  CallsIn F n Tryz.prog 156 #[.func (.yield l) #[] #[],.pointer (some ⟨Bs,Bo,none⟩)] W fun e W'=>(∃v,e=.returned v)∧J [] W':=by
 refine callsIn_of_wp Tryz.func156 rfl h7 ?_ hro
 simp only[Tryz.ntmps156,List.size_toArray,List.length_cons,List.length_nil,Nat.reduceAdd,Nat.reduceSub,Array.replicate_succ,Array.replicate_zero,List.push_toArray,List.append_toArray,List.nil_append,List.cons_append]
 gi_wp2
 gi_loopw [7] (fun i wr=>i=.int .i64 0∧J [] wr) (fun _ _=>0)
 case atStart=>exact⟨rfl,h0⟩
 case round =>
  obtain⟨rfl,hJs⟩:=hrel
  gi_wp2
  go_end0
  exact⟨⟨_,rfl⟩,hJs⟩
def Ints (n₀:Nat) (W:World) (sv:Value) (zs:List Int):Prop :=
 (∃A c,sv=.slice A 0 c∧zs=[])∨∃b off cap,sv=.slice (some ⟨b,off,none⟩) zs.length cap∧b<n₀∧∀j,j<zs.length→W.cell? ⟨b,off+j,none⟩=some (.int .i64 (zs[j]?.getD 0))
theorem Ints.below {n₀:Nat} {A B:World} (h:Below n₀ A B) {sv:Value} {zs:List Int} : Ints n₀ A sv zs→Ints n₀ B sv zs
 | .inl e =>.inl e
 | .inr ⟨b,off,cap,e,hb,hc⟩ =>.inr ⟨b,off,cap,e,hb,fun j hj=>(h.cell (p:=⟨b,off+j,none⟩) hb).trans (hc j hj)⟩
theorem Gt (F:Fence) (n:Nat) (h7:F.fn 156) (hro:F.round=none) (hn:1≤n) (Bs Bo n₀:Nat) (sv:Value) (zs:List Int) (hreach:zs.length*8≤140737488351232) (w:World) (hBs:Bs<w.heap.size) (hn₀:n₀≤w.heap.size)
  (hc:w.cell? ⟨Bs,Bo,none⟩=some sv) (hI:Ints n₀ w sv zs) :
  SeqStopsK F n Tryz.prog 156 #[.pointer (some ⟨Bs,Bo,none⟩)] (fun x:Int=>#[Value.int .i64 x]) (Below n₀) (fun ys=>ys=zs) (fun pre=>pre <+: zs) zs.length w:=fun l J Jx W hW _ _ hY h0=>by
 have hc':=(hW.cell (p:=⟨Bs,Bo,none⟩) hBs).trans hc
 rcases hI.below (hW.mono hn₀) with⟨A,c,rfl,rfl⟩|⟨b,off,cap,rfl,hb,hcs⟩
 ·exact (B7 F n h7 hro l Bs Bo _ _ J W hc' h0).mono fun e W' ⟨he,hj⟩=>⟨he,.inl ⟨_,rfl,hj⟩⟩
 ·refine (Lm F n h7 hro hn l Bs Bo n₀ b off zs.length cap zs hreach hb J Jx hY W hc' hcs h0).mono ?_
  rintro e W' ⟨he,⟨ys,rfl,hj⟩|⟨pre,⟨k,hk,rfl⟩,hj⟩⟩
  ·exact⟨he,.inl ⟨_,RD zs,hj⟩⟩
  ·exact⟨he,.inr ⟨_,by rw[Om zs hk];exact List.take_prefix _ _,hj⟩⟩
theorem UK:(Tryz.prog.info? 3).map (fun i=>(i.zero,i.size,i.bytes))=some (some (.int .i64 0),1,8):=by kernel_rfl
set_option maxRecDepth 100000 in
set_option maxHeartbeats 2000000 in
theorem appendSeq_in (F:Fence) (n:Nat) (h3:F.fn 176) (h7:F.fn 156) (hro:F.round=none) (hn:3≤n) (Bs Bo:Nat) (sv:Value) (zs:List Int) (hreach:zs.length*8≤140737488351232) (w:World)
  (hBs:Bs<w.heap.size) (hc:w.cell? ⟨Bs,Bo,none⟩=some sv) (hI:Ints w.heap.size w sv zs) :
  CallsIn F n Tryz.prog 176 #[.slice none 0 0,.func (.func 156) #[] #[.pointer (some ⟨Bs,Bo,none⟩)]] w fun e W'=>∃v,e=.returned v∧W'.ownsRow w.heap.size 3 1 v zs.length (zs.map (Value.int .i64))∧(v=.slice none 0 0↔zs=[])∧Below w.heap.size w W':=by
 have h1:1≤n:=by omega
 obtain⟨i0,hi,hz0,hz1,hz2⟩:=info_parts UK
 refine callsIn_of_wp_marks Tryz.func176 rfl h3 ?_ hro
 simp only[Tryz.ntmps176,List.size_toArray,List.length_cons,List.length_nil,Nat.reduceAdd,Nat.reduceSub,Array.replicate_succ,Array.replicate_zero,List.push_toArray,List.append_toArray,List.nil_append,List.cons_append]
 gi_wp2
 have bO:=Boxed.new w 25 (.slice none 0 0)
 have hB0:Below w.heap.size w (w.alloc (.cells #[.slice none 0 0] 25)):=(Below.refl _ w).alloc (Nat.le_refl _) _
 refine wpIn_rangeFunc_ownG hro h1 (gf:=156) (lb:=#[.pointer (some ⟨Bs,Bo,none⟩)]) rfl h7 (enters_of Tryz.func156 (by kernel_rfl) rfl)
  (Gt F (n-1) h7 hro (by omega) Bs Bo w.heap.size sv zs hreach _ (by simp;omega) (by simp) ((hB0.cell (p:=⟨Bs,Bo,none⟩) hBs).trans hc) (hI.below hB0)) belowK_t (belowK_b (by simp)) (Below.refl _ _) (fun _=>rfl)
  (fun pre W=>(∃v,Boxed W w.heap.size 25 v∧W.ownsRow w.heap.size 3 1 v pre.length (pre.map (Value.int .i64))∧(v=.slice none 0 0↔pre=[]))∧Below w.heap.size w W)
  (fun _ _ _=>False)
  (OwnFrom.and (Own.from (holdsRow_own w.heap.size w.heap.size 25 3 1 (fun pre=>pre.length) (fun pre=>pre.map (Value.int .i64)) (fun pre v=>v=.slice none 0 0↔pre=[])) _) (ownFrom_below (Nat.le_refl _) (by simp)))
  (fun _ _ _ _ _ hs _ _=>hs)
  ⟨⟨_,bO,World.ownsRow_nil _ _ _ _,by simp⟩,hB0⟩
  (fun x=>{ tmps:=#[.slice none 0 0,.func (.func 156) #[] #[.pointer (some ⟨Bs,Bo,none⟩)],.pointer (some ⟨w.heap.size,0,none⟩),undef,.slice none 0 0,.int .i64 x,.func (.func 156) #[] #[.pointer (some ⟨Bs,Bo,none⟩)],.int .i64 x,undef,undef,undef,undef,undef],defers:=[] }) ?assign ?body ?done ?stop
 case assign =>
  intro l x W K hK
  gi_wp2
  exact hK
 case body =>
  rintro l pre x W ⟨⟨v,hv,hrow,hnil⟩,hB⟩ hlt
  have hc:=hv.cell
  gi_wp2_with (gi_at_builtin;refine wpListIn_append_own _ rfl _ _ 25 rfl w.heap.size 3 i0 (.int .i64 0) 1 8 Tryz.underlying25 hi hz0 hz1 hz2 rfl (by decide) _ _ _ rfl (hrow.alloc _) ⟨W.heap.size,0,none⟩ 1 1 [.int .i64 x] rfl rfl (cell_one_new _ _ _) (by simp[Value.oneCell']) (by unfold maxLen;omega) (by omega) (by have:=hB.size;simp;omega) ?_;intro v' w1 hown' hgrow _;obtain⟨g',cap',rfl⟩:=ownsRow_succ hown';obtain⟨hv1,hv2,hr2,hk2,hb2⟩:=hv.appended (by decide) hrow hB.size (Nat.le_refl _) hown' hgrow;have hc1:=hv1.cell;have hf1:=hv1.frozen)
  exact⟨hk2.from _,hb2,⟨_,hv2,by simpa using hr2,by simp⟩,hB.trans hb2⟩
 case done =>
  rintro D ys W hD rfl ⟨⟨v,hv,hrow,hnil⟩,hB⟩ hK
  have hc:=hv.cell
  gi_wp2
  refine⟨by simp,.inl ⟨_,_,rfl,run_takeDeferred hK,?_⟩⟩
  exact⟨_,results_tmp rfl _ _ _,v,rfl,ownsRow_putObj hrow _ hK rfl,hnil,hB.trans (belowK_b (w:=w) (Nat.le_refl _) W D _ _ (by simp at hD;omega) hK rfl rfl)⟩
 case stop =>
  rintro D c pre W _ _ h _
  exact h.elim
set_option maxHeartbeats 1000000 in
theorem collect_in (F:Fence) (n:Nat) (h2:F.fn 155) (h3:F.fn 176) (h7:F.fn 156) (hro:F.round=none) (hn:4≤n) (Bs Bo:Nat) (sv:Value) (zs:List Int) (hreach:zs.length*8≤140737488351232) (w:World)
  (hBs:Bs<w.heap.size) (hc:w.cell? ⟨Bs,Bo,none⟩=some sv) (hI:Ints w.heap.size w sv zs) :
  CallsIn F n Tryz.prog 155 #[.func (.func 156) #[] #[.pointer (some ⟨Bs,Bo,none⟩)]] w fun e W'=>∃v,e=.returned v∧W'.ownsRow w.heap.size 3 1 v zs.length (zs.map (Value.int .i64))∧(v=.slice none 0 0↔zs=[])∧Below w.heap.size w W':=by
 have h1:1≤n:=by omega
 refine callsIn_of_wp Tryz.func155 rfl h2 ?_ hro
 simp only[Tryz.ntmps155,List.size_toArray,List.length_cons,List.length_nil,Nat.reduceAdd,Nat.reduceSub,Array.replicate_succ,Array.replicate_zero,List.push_toArray,List.append_toArray,List.nil_append,List.cons_append]
 gi_wp2_with (gi_at_call 176;refine (appendSeq_in F (n-1) h3 h7 hro (by omega) Bs Bo sv zs hreach _ hBs hc hI).mono ?_;rintro e w' ⟨v,rfl,hrow,hnil,hb⟩)
 go_ret
 exact⟨v,rfl,hrow,hnil,hb⟩
theorem SO (a:Option Addr) (len cap:Nat) (w:World) :
  Calls Tryz.prog 116 #[.slice a len cap] w fun e w'=>e=.returned (.func (.func 156) #[] #[.pointer (some ⟨w.heap.size,0,none⟩)])∧w'=w.alloc (.cells #[.slice a len cap] 25):=by
 go_enter Tryz.func116,Tryz.ntmps116
 go_wp2
 go_ret
 exact⟨rfl,rfl⟩
set_option maxHeartbeats 1000000 in
theorem SI (Bs Bo:Nat) (sv:Value) (zs:List Int) (hreach:zs.length*8≤140737488351232) (w:World) (hBs:Bs<w.heap.size) (hc:w.cell? ⟨Bs,Bo,none⟩=some sv) (hI:Ints w.heap.size w sv zs) :
  Calls Tryz.prog 115 #[.func (.func 156) #[] #[.pointer (some ⟨Bs,Bo,none⟩)]] w fun e w'=>∃v,e=.returned v∧Below w.heap.size w w' ∧
   ((zs=[]∧v=.slice none 0 0)∨∃g cap cs,v=.slice (some ⟨g,0,none⟩) zs.length cap∧w.heap.size≤g∧w'.heap[g]? = some (.cells cs 3 (0,0))∧zs.length≤cap∧cap≤maxLen∧cs.size=cap∧∀j,j<zs.length→cs.getD j undef=.int .i64 ((fl zs).getD j 0)):=by
 refine (callsIn_wide (n:=6)).1 ?_
 have hN:(1:Nat)≤6:=by omega
 have cC:=collect_in Fence.wide 5 trivial trivial trivial rfl (by omega) Bs Bo sv zs hreach w hBs hc hI
 refine callsIn_of_wp Tryz.func115 rfl trivial ?_ rfl
 simp only[Tryz.ntmps115,List.size_toArray,List.length_cons,List.length_nil,Nat.reduceAdd,Nat.reduceSub,Array.replicate_succ,Array.replicate_zero,List.push_toArray,List.append_toArray,List.nil_append,List.cons_append]
 have hf1:Fence.wide.fn 155:=trivial
 have hf2:Fence.wide.fn 69:=trivial
 have cS:OD Tryz.prog 69:=fun blk off cap zs w hH hb hl=>Any.slices_Sort_int Tryz.FG blk off cap zs w hH hb hl
 by_cases hz:zs=[]
 ·subst hz
  gi_wp2_with (first
   | (gi_at_call 155;refine cC.mono ?_;clear cC;rintro e w' ⟨v,rfl,hrow,hnil,hb⟩;obtain rfl:v=.slice none 0 0:=hnil.2 rfl)
   | (gi_at_call 69;refine (callsIn_wide.2 (Any.slices_Sort_int_none Tryz.FG _ _ _)).mono ?_;rintro e2 w2 ⟨rfl,rfl⟩))
  go_ret
  first|exact⟨_,rfl,hb,.inl rfl⟩|exact⟨_,rfl,hb,.inl ⟨rfl,rfl⟩⟩
 ·gi_wp2_with (gi_at_call 155;refine cC.mono ?_;clear cC;rintro e w' ⟨v,rfl,hrow,hnil,hb⟩;obtain⟨g,cap,cur,rfl,k1,k2,k3,k4,k5,k6⟩:∃g cap cur,v=.slice (some ⟨g,0,none⟩) zs.length cap∧w.heap.size≤g∧w'.heap[g]? = some (.cells cur 3 (0,0))∧zs.length≤cap∧cap≤maxLen∧cur.size=cap*1∧cur.toList.take (zs.length*1)=zs.map (Value.int .i64):=hrow.2.resolve_left (fun hv=>hz (hnil.1 hv.1)))
  rw[Nat.mul_one]at k5 k6
  have hcur:∀j,j<zs.length→cur[j]? = some (.int .i64 (zs.getD j 0)):=by
   intro j hj
   have:(cur.toList.take zs.length)[j]? = (zs.map (Value.int .i64))[j]?:=by rw[k6]
   rw[List.getElem?_take,if_pos hj,List.getElem?_map,Array.getElem?_toList]at this
   rw[this]
   simp[List.getD,hj]
  have hH:Go.Sort.Holds (Value.int .i64) w' g 0 zs.toArray:=by
   intro j hj
   simp only[List.size_toArray]at hj
   refine⟨?_,by simp[World.frozen?,k2]⟩
   simp only[World.cell?,k2,Nat.zero_add]
   rw[hcur j hj]
   simp[List.getD,hj]
  have hlt:g<w'.heap.size:=(Array.getElem?_eq_some_iff.1 k2).1
  gi_wp2_with (gi_at_call 69;refine (callsIn_wide.2 (cS g 0 cap zs w' hH hlt (by omega))).mono ?_;rintro e2 w2 ⟨rfl,q,os,rfl⟩)
  go_ret
  refine⟨_,rfl,?_,.inr ⟨g,cap,Go.Sort.putCells (Value.int .i64) 0 (fl zs).toArray cur,rfl,k1,?_,k3,k4,?_,fun j hj =>?_⟩⟩
  ·refine⟨hb.os,hb.tape,hb.output,Nat.le_trans hb.size (by simp[Go.Sort.grow,Go.Sort.ahead]),fun k hk =>?_⟩
   have hk':k<w'.heap.size:=Nat.lt_of_lt_of_le hk hb.size
   rw[Go.Sort.heap_grow_old _ _ (by simpa [Go.Sort.ahead] using hk'),j4 (by omega)]
   exact hb.block k hk
  ·rw[Go.Sort.heap_grow_old _ _ (by simpa [Go.Sort.ahead] using hlt)]
   exact rZ k2
  ·simp[Go.Sort.putCells,k5]
  ·rw[pQ (by omega),if_pos (by rw[eL];omega),Nat.sub_zero]
theorem On:bI Tryz.prog 116 (ez (dJ (gg (eI .i64))) zk (fun r =>.clean (.clo 156 0 [.ip [.sl false false r.length (ab (eI .i64) r)]]))) where
 callable:=⟨_,Tryz.func116,by kernel_rfl,by kernel_rfl⟩
 calls lent ds rk out hg:=by
  obtain⟨rfl,rfl,l,r,rfl,hr,rfl⟩:=oL hg
  cases hr
  intro w M vs hM hargs
  have hsz:vs.size=1:=hargs.size
  rw[Lp hsz]
  have hu:=hargs.at_ 0 _ rfl
  generalize vs.getD 0 undef=u at *
  have hu':RP w M (.sl false false l.length (ab (eI .i64) l)) u:=hu
  obtain⟨A,c,rfl,-⟩:=E4 hu'
  refine (SO A l.length c w).mono fun e w' ⟨he,hw⟩ =>?_
  subst hw
  have hb:Below w.heap.size w (w.alloc (.cells #[.slice A l.length c] 25)):=(Below.refl _ w).alloc (Nat.le_refl _) _
  have hk:∀b,b<w.heap.size→¬M b→b<(w.alloc (.cells #[.slice A l.length c] 25)).heap.size∧¬M b∧(w.alloc (.cells #[.slice A l.length c] 25)).heap[b]? = w.heap[b]?:=fun b h1 h2=>⟨by simp;omega,h2,hb.block b h1⟩
  refine⟨_,he,hb,RP.clo _ 0 _ [.pointer (some ⟨w.heap.size,0,none⟩)] rfl fun j x hj =>?_⟩
  cases j with
  | succ j=>simp at hj
  | zero =>
   simp only[List.getElem?_cons_zero,Option.some.injEq]at hj
   subst hj
   refine RP.ip _ ⟨w.heap.size,0,none⟩ (fun _ =>.slice A l.length c) (fun _=>⟨w.heap.size,0,rfl,by simp,fun h=>by have:=hM _ h;omega,fun j hj =>?_⟩) (fun j x hj =>?_) (fun x hx =>?_)
   ·simp only[List.length_cons,List.length_nil]at hj
    have:j=0:=by omega
    subst this
    exact (bf (heap_alloc_new w _) (j:=0) (by simp)).trans rfl
   ·cases j with
    | succ j=>simp at hj
    | zero =>
     simp only[List.getElem?_cons_zero,Option.some.injEq]at hj
     subst hj
     exact hu'.keep hk
   ·simp only[List.mem_singleton]at hx
    subst hx
    rfl
theorem Oc:bI Tryz.prog 115 (ez (dJ (OE 156 0 (dJ (OF (jv (eI .i64)))))) v7 (fun r =>.fresh 3 1 r.length (ab (eI .i64) r))) where
 callable:=⟨_,Tryz.func115,by kernel_rfl,by kernel_rfl⟩
 calls lent ds rk out hg:=by
  obtain⟨rfl,rfl,l,r,rfl,hr,rfl⟩:=oL hg
  unfold v7 at hr
  split at hr
  rotate_left
  ·cases hr
  rename_i hreach
  cases hr
  intro w M vs hM hargs
  have hsz:vs.size=1:=hargs.size
  rw[Lp hsz]
  have hu:=hargs.at_ 0 _ rfl
  generalize vs.getD 0 undef=u at *
  have hu':RP w M (.clo 156 0 [.ip [.sl false false l.length (ab (eI .i64) l)]]) u:=hu
  cases hu' with
  | clo f kk xs us h1 h2 =>
   have hp:=h2 0 _ rfl
   have hus:us=[us.getD 0 undef]:=by
    match us,h1 with
    | [x],_=>rfl
   rw[hus]
   generalize us.getD 0 undef=q at *
   cases hp with
   | ip xs ad us2 h6 h7 h8 =>
    obtain⟨b,o,rfl,hb,hMb,hcell⟩:=h6 (by simp)
    have hcell0:=hcell 0 (by simp)
    rw[Nat.add_zero]at hcell0
    have hs:=h7 0 _ rfl
    have hI:Ints w.heap.size w (us2 0) l:=by
     obtain⟨A,c,hA,k1,k2,k3,k4⟩:=E4 hs
     rw[hA]
     by_cases hl:l=[]
     ·subst hl;exact .inl ⟨A,c,rfl,rfl⟩
     ·obtain⟨b',o',rfl,hb',hM',hc'⟩:=k4 hl
      exact .inr ⟨b',o',c,rfl,hb',fun j hj=>by rw[hc' j hj];simp[List.getD]⟩
    refine (SI b o (us2 0) l hreach w hb hcell0 hI).mono fun e w' ⟨v,he,hbw,hv⟩ =>?_
    refine⟨v,he,hbw,?_⟩
    rcases hv with⟨rfl,rfl⟩|⟨g,cap,cs,rfl,k1,k2,k3,k4,k5,k6⟩
    ·refine .inr ⟨?_,?_,none,rfl⟩
     ·rw[xp];rfl
     ·rw[xp];rfl
    ·refine .inl ⟨(g,0),cap,cs,by rw[eL],.inl k1,k2,by rw[eL];exact k3,k4,by simp only;omega,by rw[bS,eL];simp only;omega,fun j d hj =>?_⟩
     have hjl:=(List.getElem?_eq_some_iff.1 hj).1
     rw[bS,eL]at hjl
     rw[gW,Option.map_eq_some_iff]at hj
     obtain⟨z,hz,rfl⟩:=hj
     simp only[Nat.zero_add]
     rw[k6 j hjl]
     have:(fl l).getD j 0=z:=by simp[List.getD,hz]
     rw[this]
     exact⟨rfl,.int _ _⟩
end Go.Proofs.YtpkahnkoecbndaaGreatDoor.Am
namespace Go.Proofs.YtpkahnkoecbndaaGreatDoor.Am
open Go.RowKit Go.Proofs.YtpkahnkoecbndaaGreatDoor.P Go.Shelf
set_option linter.unusedSimpArgs false
set_option linter.unusedVariables false
theorem Tv:(Tryz.prog.info? 150).map (·.size)=some 2:=by kernel_rfl
theorem US:liesAt Tryz.prog Tryz.prog.depth 150 (2 / Tryz.prog.cellsOf 150) 0 150 1=true:=by kernel_rfl
theorem T0:(Tryz.prog.info? 5).map (fun i=>(i.zero,i.size,i.bytes))=some (some (.int .u8 0),1,1):=by kernel_rfl
set_option maxRecDepth 100000 in
theorem R6 (b:Nat) (w:World) (h0:w.cell? ⟨b,0,none⟩=some (.pointer (some ⟨b,0,none⟩))) :
  Calls Tryz.prog 160 #[.pointer (some ⟨b,0,none⟩)] w fun e w'=>e=.returned (.tuple #[])∧w'=w:=by
 obtain⟨j,hj,_⟩:=Option.map_eq_some_iff.1 Tv
 go_enter Tryz.func160,Tryz.ntmps160
 go_wp2
 rw[Lib.run_neq_ptr_same w _ Tryz.underlying147 hj]
 go_wp2
 go_end0
 exact⟨rfl,rfl⟩
set_option maxHeartbeats 1000000 in
set_option maxRecDepth 100000 in
theorem O7 (b:Nat) (w:World) (h0:w.cell? ⟨b,0,none⟩=some (.pointer none)) (hsh:w.shape? b=some (150,2)) (hfz:w.frozen? ⟨b,0,none⟩=false) :
  Calls Tryz.prog 160 #[.pointer (some ⟨b,0,none⟩)] w fun e w'=>e=.returned (.tuple #[])∧w'=w.setCell ⟨b,0,none⟩ (.pointer (some ⟨b,0,none⟩)):=by
 obtain⟨j,hj,hjs⟩:=Option.map_eq_some_iff.1 Tv
 go_enter Tryz.func160,Tryz.ntmps160
 go_wp2
 rw[Lib.run_to_unsafe w ⟨b,0,none⟩ Tryz.underlying147 Tryz.underlying192 hj (by rw[hjs];decide) hsh (Nat.zero_lt_succ 1)]
 simp only[Result.andThen]
 rw[Oper.upon_value]
 go_wp2
 rw[run_callFunc_extern Tryz.func178 (by kernel_rfl) (by kernel_rfl) (by kernel_rfl) (e:=Extern.AbiNoEscape.same) (by kernel_rfl)]
 rw[Lib.run_noEscape]
 simp only[Result.andThen]
 rw[Oper.upon_value]
 go_wp2
 rw[Lib.run_from_unsafe w ⟨b,0,none⟩ Tryz.underlying192 Tryz.underlying147 hj hsh US]
 simp only[Result.andThen]
 rw[Oper.upon_value]
 go_wp2
 go_end0
 exact⟨rfl,rfl⟩
theorem Np (B b:Nat) (bs:List Value) (w:World) (h:Lib.IsBuilder 150 5 B b bs w) :
  Calls Tryz.prog 160 #[.pointer (some ⟨b,0,none⟩)] w fun e w'=>e=.returned (.tuple #[])∧(Lib.BuilderAt 150 5 B b (.pointer (some ⟨b,0,none⟩)) bs w'∧Below B w w'):=by
 rcases h with h|h
 ·refine (O7 b w h.cell0 h.shape h.frozen0).mono ?_
  rintro e w' ⟨rfl,rfl⟩
  exact⟨rfl,h.used _,(Below.refl B w).setCell (p:=⟨b,0,none⟩) h.1 _⟩
 ·refine (R6 b w h.cell0).mono ?_
  rintro e w' ⟨rfl,rfl⟩
  exact⟨rfl,h,Below.refl B _⟩
set_option maxHeartbeats 2000000 in
set_option maxRecDepth 100000 in
theorem Ux (B b:Nat) (bs:List Value) (s:ByteArray) (w:World) (h:Lib.IsBuilder 150 5 B b bs w) (hlen:bs.length+s.size≤140737488355328) (hBw:B≤w.heap.size) :
  Calls Tryz.prog 120 #[.pointer (some ⟨b,0,none⟩),.string s] w fun e w'=>e=.returned (.tuple #[.int .i64 s.size,.nilIface])∧(Lib.BuilderAt 150 5 B b (.pointer (some ⟨b,0,none⟩)) (bs++Lib.strCells s) w'∧Below B w w'):=by
 obtain⟨i0,hi,hz0,hz1,hz2⟩:=info_parts T0
 go_enter Tryz.func120,Tryz.ntmps120
 go_wp2_with (go_at_call 160;refine (Np B b bs _ h).mono ?_)
 rintro e w1 ⟨rfl,h1,hb1⟩
 obtain⟨hB,v,hbk,hown,hne⟩:=h1
 have c0:w1.cell? ⟨b,0,none⟩=some (.pointer (some ⟨b,0,none⟩)):=by rw[Lib.cell_of_heap hbk];rfl
 have c1:w1.cell? ⟨b,1,none⟩=some v:=by rw[Lib.cell_of_heap hbk];rfl
 go_wp2_with (at_builtin;refine Lib.wpList_append_own_string _ rfl _ _ 148 9 rfl B 5 i0 Tryz.underlying148 Tryz.underlying9 hi hz0 hz1 hz2 _ _ _ rfl hown s rfl ?c3 ?c4 ?c5 ?_)
 case c3=>unfold maxLen;omega
 case c4=>omega
 case c5=>have:=hb1.size;omega
 intro v' w2 hown' hgrow _
 have hlt:b<w1.heap.size:=(Array.getElem?_eq_some_iff.1 hbk).1
 have hb2:w2.heap[b]? = some (.cells #[.pointer (some ⟨b,0,none⟩),v] 150 (0,0)):=by
  rw[hgrow.block b hlt (fun e=>hne e.symm)]
  exact hbk
 have d0:w2.cell? ⟨b,0,none⟩=some (.pointer (some ⟨b,0,none⟩)):=by rw[Lib.cell_of_heap hb2];rfl
 have d1:w2.cell? ⟨b,1,none⟩=some v:=by rw[Lib.cell_of_heap hb2];rfl
 have f1:w2.frozen? ⟨b,1,none⟩=false:=Lib.frozen_of_heap hb2 1
 obtain⟨ao,n',cap,rfl⟩:∃ao n' cap,v'=.slice ao n' cap:=by
  rcases hown'.2 with⟨hv,_⟩|⟨g,cap,cur,hv,_⟩
  ·exact⟨_,_,_,hv⟩
  ·exact⟨_,_,_,hv⟩
 go_wp2
 go_ret2
 refine⟨rfl,?_,?_⟩
 ·exact Lib.BuilderAt.put (T:=150) (e:=5) hB hb2 (bs':=bs++Lib.strCells s) (by simpa [Lib.strCells_length] using hown') (by decide)
 ·exact (hb1.grown hgrow (by have:=hb1.size;omega) (fun k hk=>(hown.lt k hk).1)).setCell (p:=⟨b,1,none⟩) hB _
theorem MZ (B b:Nat) (l:List UInt8) (w:World) (h:Lib.IsBuilder 150 5 B b (Lib.byteCells l) w) (hBw:B≤w.heap.size) :
  Calls Tryz.prog 122 #[.pointer (some ⟨b,0,none⟩)] w fun e w'=>e=.returned (.string ⟨l.toArray⟩)∧Below B w w':=Any.Builder_String_any Tryz.Sm Tryz.PC B b l w h hBw
theorem QT {P:Program} {w:World} {nm:String} {g ty:Nat} {fr:Nat×Nat} (hg:P.globalNamed nm=some g) (h:w.heap[g]? = some (.cells lV ty fr)):Lib.TabIs P w nm .u64 Lib.pow10Tab:=by
 simp only[Lib.TabIs,World.var?,hg,Option.bind_some,h]
 simp[Lib.pow10Tab,lV]
theorem J8 (w:World) (k:Nat) (os:Array Obj):Below w.heap.size w (Go.Sort.grow (w.drewN k) os) :=
 ⟨rfl,rfl,rfl,by simp[Go.Sort.grow],fun j hj=>Go.Sort.heap_grow_old (w.drewN k) os hj⟩
theorem PZ:Uy Tryz.prog 121:=fun n w h0 h1 ht=>by
 refine (Any.strconv_Itoa Tryz.P4 n h0 h1 w ?_).mono ?_
 ·obtain⟨ty,fr,h⟩:=ht 0 rfl
  exact QT (by kernel_rfl) h
 ·rintro e w' ⟨rfl,k,os,rfl⟩
  exact⟨rfl,J8 w k os⟩
theorem zA (a b:List UInt8):(⟨a.toArray⟩:ByteArray)++⟨b.toArray⟩=⟨(a++b).toArray⟩:=by
 apply ByteArray.ext
 simp
theorem ur (n:Int) (h0 : -9223372036854775808≤n) (h1:n≤9223372036854775807):(A0 n).size≤21:=by
 have:=Lib.itoa_length_le n h0 h1
 simpa [A0,ByteArray.size] using this
theorem SS (n:Int) (w:World) (h0 : -9223372036854775808≤n) (h1:n≤9223372036854775807) (ht:∀b,p8=some b→∃ty fr,w.heap[b]? = some (.cells lV ty fr)) :
  Calls Tryz.prog 94 #[.int .i64 n] w fun e w'=>e=.returned (.string ⟨(Lib.itoa n++[59]).toArray⟩)∧Below w.heap.size w w':=by
 have hsz:=ur n h0 h1
 have e1:A0 n++⟨#[59]⟩=⟨(Lib.itoa n++[59]).toArray⟩:=zA (Lib.itoa n) [59]
 go_enter Tryz.func94,Tryz.ntmps94
 go_wp2_with (go_at_call 121;refine (PZ n _ h0 h1 ht).mono ?_;rintro e w' ⟨rfl,hb⟩)
 go_ret
 exact⟨rfl,hb⟩
theorem Mr (w:World):Lib.IsBuilder 150 5 w.heap.size w.heap.size [] (w.alloc (.cells #[.pointer none,.slice none 0 0] 150)) :=
 .inl ⟨Nat.le_refl _,.slice none 0 0,heap_alloc_new w _,World.ownsRow_nil _ _ _ _,by simp[Value.ownBlock]⟩
theorem Lt (B b:Nat) (bs t:List UInt8) (w:World) (h:Lib.IsBuilder 150 5 B b (Lib.byteCells bs) w) (hlen:bs.length+t.length≤140737488355328) (hBw:B≤w.heap.size) :
  Calls Tryz.prog 120 #[.pointer (some ⟨b,0,none⟩),.string ⟨t.toArray⟩] w fun e w'=>∃v,e=.returned v∧(Lib.BuilderAt 150 5 B b (.pointer (some ⟨b,0,none⟩)) (Lib.byteCells (bs++t)) w'∧Below B w w'):=by
 have e1:Lib.strCells ⟨t.toArray⟩=Lib.byteCells t:=rfl
 have e2:(⟨t.toArray⟩:ByteArray).size=t.length:=List.size_toArray
 generalize hS:(⟨t.toArray⟩:ByteArray)=S at *
 refine (Ux B b (Lib.byteCells bs) S w h (by rw[Lib.byteCells_length,e2];exact hlen) hBw).mono ?_
 rintro e w' ⟨he,h1,h2⟩
 rw[e1,← Lib.byteCells_append]at h1
 exact⟨_,he,h1,h2⟩
theorem CP {w w':World} {B ty s n:Nat} {v:Value} {xs:List Value} (h:w.ownsRow B ty s v n xs) (hb:Below w.heap.size w w'):w'.ownsRow B ty s v n xs:=by
 obtain⟨h1,h2⟩:=h
 refine⟨h1,?_⟩
 rcases h2 with h2|⟨g,cap,cur,k1,k2,k3,k4⟩
 ·exact .inl h2
 ·exact .inr ⟨g,cap,cur,k1,k2,(hb.block g (Array.getElem?_eq_some_iff.1 k3).1).trans k3,k4⟩
theorem ou {w w':World} {B b:Nat} {p:Value} {bs:List Value} (h:Lib.BuilderAt 150 5 B b p bs w) (hb:Below w.heap.size w w'):Lib.BuilderAt 150 5 B b p bs w':=by
 obtain⟨h1,v,h2,h3,h4⟩:=h
 exact⟨h1,v,(hb.block b (Array.getElem?_eq_some_iff.1 h2).1).trans h2,CP h3 hb,h4⟩
theorem Ea {w w':World} {B b:Nat} {bs:List Value} (h:Lib.IsBuilder 150 5 B b bs w) (hb:Below w.heap.size w w'):Lib.IsBuilder 150 5 B b bs w':=h.imp (ou · hb) (ou · hb)
theorem EV (l:List Int) {k:Nat} (hk:k<l.length):eg (l.take (k+1))=eg (l.take k)++(Lib.itoa (l.getD k 0)++[59]):=by
 rw[List.take_add_one,List.getElem?_eq_getElem hk]
 simp only[eg,List.flatMap_append,Option.toList_some,List.flatMap_cons,List.flatMap_nil,List.append_nil]
 simp[List.getD,hk]
theorem Sr (l:List Int) (k:Nat):(eg (l.take k)).length≤(eg l).length:=by
 have:l=l.take k++l.drop k:=(List.take_append_drop k l).symm
 have h2:eg l=eg (l.take k)++eg (l.drop k):=by
  conv=>lhs;rw[this]
  simp only[eg,List.flatMap_append]
 rw[h2]
 simp
end Go.Proofs.YtpkahnkoecbndaaGreatDoor.Am
