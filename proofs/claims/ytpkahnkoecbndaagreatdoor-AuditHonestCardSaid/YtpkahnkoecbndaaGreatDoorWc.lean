/- Part of a proof, made small by a program (wip/mini.py). -/
import Derived.Test.YtpkahnkoecbndaaGreatDoorWb
namespace Go.Proofs.YtpkahnkoecbndaaGreatDoor.Am
open Go.RowKit
set_option linter.unusedSimpArgs false
set_option linter.unusedVariables false
inductive W where
 | code (c:Code)
 | blk (id:Nat)
section
variable (T:Nat→Option Ty) (Γ:Env) (N F:Nat)
def cU:List W→Kt→Kt
 | [],Q=>Q
 | .code c::ws,Q=>fun x t h e=>WU x (KV T Γ N F c t h e (cU ws Q)) (cU ws Q x t h e)
 | .blk id::ws,Q=>fun x t h e=>QC id x t h e (cU ws Q)
def kN (ops l:List Oper) (ws:List W) (Q:Kt) (t:Nat→D) (h:Nat→Option Row) (e:Nat):Prop :=
 Cr T Γ N e ops l t h fun t h=>cU T Γ N F ws Q .normal t h (e+1)
def kO (ops l:List Oper) (ws:List W) (Q:Kt) (t:Nat→D) (h:Nat→Option Row) (e:Nat) (fs:List kh):Prop :=
 runK T Γ N e ops l t h fs fun t h fs=>Ba ops.toArray fs=true∧cU T Γ N F ws Q .normal t h (e+1)
def ot (o:Oper) (ops l:List Oper) (ws:List W) (Q:Kt) (t:Nat→D) (h:Nat→Option Row) (e:Nat):Prop :=
 Tf T Γ e o t h fun t E=>kN T Γ N F ops l ws Q (eE t o.dst E.val) (bj h E.hw) e
def ou (o:Oper) (ops l:List Oper) (ws:List W) (Q:Kt) (t:Nat→D) (h:Nat→Option Row) (e:Nat) (fs:List kh):Prop :=
 Tf T Γ e o t h fun t E=>kO T Γ N F ops l ws Q (eE t o.dst E.val) (bj h E.hw) e (fs++[⟨bQ o (ev t),E.hw.isEmpty⟩])
def uD (d:D) (g:Nat) (want:Bool) (o:Oper) (ops l:List Oper) (ws:List W) (Q:Kt) (t:Nat→D) (h:Nat→Option Row) (e:Nat):Prop :=
 wpS d t g (fun t=>if want then ot T Γ N F o ops l ws Q t h e else kN T Γ N F ops l ws Q (eE t o.dst .skp) h e) (fun t=>if want then kN T Γ N F ops l ws Q (eE t o.dst .skp) h e else ot T Γ N F o ops l ws Q t h e) (fun t=>kN T Γ N F ops l ws Q (eE t o.dst .skp) h e)
def uE (d:D) (g:Nat) (want:Bool) (o:Oper) (ops l:List Oper) (ws:List W) (Q:Kt) (t:Nat→D) (h:Nat→Option Row) (e:Nat) (fs:List kh):Prop :=
 wpS d t g (fun t=>if want then ou T Γ N F o ops l ws Q t h e fs else kO T Γ N F ops l ws Q (eE t o.dst .skp) h e (fs++[⟨[],true⟩])) (fun t=>if want then kO T Γ N F ops l ws Q (eE t o.dst .skp) h e (fs++[⟨[],true⟩]) else ou T Γ N F o ops l ws Q t h e fs) (fun t=>kO T Γ N F ops l ws Q (eE t o.dst .skp) h e (fs++[⟨[],true⟩]))
def vJ (x:Option dG) (dst:Option Nat) (ops l:List Oper) (ws:List W) (Q:Kt) (t:Nat→D) (h:Nat→Option Row) (e:Nat):Prop :=
 s6 x fun E=>kN T Γ N F ops l ws Q (eE t dst E.val) (bj h E.hw) e
def vK (x:Option dG) (dst:Option Nat) (ft:List Nat) (ops l:List Oper) (ws:List W) (Q:Kt) (t:Nat→D) (h:Nat→Option Row) (e:Nat) (fs:List kh):Prop :=
 s6 x fun E=>kO T Γ N F ops l ws Q (eE t dst E.val) (bj h E.hw) e (fs++[⟨ft,E.hw.isEmpty⟩])
def Hl (d:D) (g:Nat) (x y:Code) (ws:List W) (Q:Kt) (t:Nat→D) (h:Nat→Option Row) (e:Nat):Prop :=
 MJ d t g (fun t=>cU T Γ N F (.code x::ws) Q .normal t h e) (fun t=>cU T Γ N F (.code y::ws) Q .normal t h e)
def R3 (d:D) (g:Nat) (a b:Operand) (dst:Option Nat) (ops l:List Oper) (ws:List W) (Q:Kt) (t:Nat→D) (h:Nat→Option Row) (e:Nat):Prop :=
 MJ d t g (fun t=>kN T Γ N F ops l ws Q (eE t dst (ev t a)) h e) (fun t=>kN T Γ N F ops l ws Q (eE t dst (ev t b)) h e)
def R4 (d:D) (g:Nat) (a b:Operand) (dst:Option Nat) (ops l:List Oper) (ws:List W) (Q:Kt) (t:Nat→D) (h:Nat→Option Row) (e:Nat) (fs:List kh):Prop :=
 MJ d t g (fun t=>kO T Γ N F ops l ws Q (eE t dst (ev t a)) h e (fs++[⟨[],true⟩])) (fun t=>kO T Γ N F ops l ws Q (eE t dst (ev t b)) h e (fs++[⟨[],true⟩]))
def N8 (b:Code) (ws:List W) (Q:Kt) (t:Nat→D) (h:Nat→Option Row) (e:Nat):Prop:=KV T Γ N F (.loop b) t h e (cU T Γ N F ws Q)
end
theorem EY {n:Nat} (h:n≤1000000):n≤maxLen:=Nat.le_trans h (by decide)
theorem Fv {z:List D} : n0 0 z=[]:=Eq.trans rfl rfl
theorem Fu {n:Nat} {z:List D} : n0 (n+1) z=z++n0 n z:=by simp[n0,List.replicate_succ]
theorem EM {N:Nat} : fits N none=true:=Eq.trans rfl rfl
theorem EN {N i:Nat} : fits N (some i)=decide (i<N):=Eq.trans rfl rfl
def sE:List Oper→Nat→Nat
 | [],_=>0
 | o::_,0=>o.dst.getD 0
 | _::l,j+1=>sE l j
def wI:List Oper→Nat→Bool
 | [],_=>false
 | o::_,0=>o.dst.isSome
 | _::l,j+1=>wI l j
theorem A5:∀(l:List Oper) (j:Nat),wI l j=true→(l[j]?).bind (·.dst)=some (sE l j)
 | [],j,h=>by simp[wI]at h
 | o::l,0,h=>by
  simp only[wI]at h
  simp only[List.getElem?_cons_zero,Option.bind_some,sE]
  cases hd:o.dst with
  | none=>rw[hd]at h;cases h
  | some d=>rfl
 | o::l,j+1,h=>by simpa [sE] using A5 l j h
theorem A7 {d:Nat} {op:Op} {ty:Nat} {pos:String} {af:Array Edge} {gd:Option (Nat×Bool)} {l:List Oper} : sE (⟨some d,op,ty,pos,af,gd⟩::l) 0=d:=Eq.trans rfl rfl
theorem A6 {o:Oper} {l:List Oper} {j:Nat} : sE (o::l) (j+1)=sE l j:=Eq.trans rfl rfl
theorem BJ {d:Nat} {op:Op} {ty:Nat} {pos:String} {af:Array Edge} {gd:Option (Nat×Bool)} {l:List Oper} : wI (⟨some d,op,ty,pos,af,gd⟩::l) 0=true:=Eq.trans rfl rfl
theorem BI {o:Oper} {l:List Oper} {j:Nat} : wI (o::l) (j+1)=wI l j:=Eq.trans rfl rfl
section
variable {dst:Option Nat} {ty:Nat} {pos:String} {af:Array Edge} {gd:Option (Nat×Bool)} {vs:Operand→D}
def wP (vs:Operand→D):List Operand→List Nat
 | []=>[]
 | x::l=>nm (vs x)++wP vs l
theorem eU (vs:Operand→D):∀l:List Operand,(l.flatMap fun x=>nm (vs x))=wP vs l
 | []=>Eq.trans rfl rfl
 | x::l=>by rw[List.flatMap_cons,eU vs l];exact Eq.trans rfl rfl
theorem NY:wP vs []=[]:=Eq.trans rfl rfl
theorem JY {x:Operand} {l:List Operand} : wP vs (x::l)=nm (vs x)++wP vs l:=Eq.trans rfl rfl
theorem zo {o:BinOp} {tt z:Nat} {x y:Operand} : bQ ⟨dst,.binOp o tt x y z,ty,pos,af,gd⟩ vs=wP vs [x,y]++dst.toList:=by rw[← eU];rfl
theorem CF {o:UnOp} {tt:Nat} {x:Operand} : bQ ⟨dst,.unOp o tt x,ty,pos,af,gd⟩ vs=wP vs [x]++dst.toList:=by rw[← eU];rfl
theorem xd {x:Operand} : bQ ⟨dst,.assign x,ty,pos,af,gd⟩ vs=wP vs [x]++dst.toList:=by rw[← eU];rfl
theorem CE {tt:Nat} {x:Operand} : bQ ⟨dst,.load tt x,ty,pos,af,gd⟩ vs=wP vs [x]++dst.toList:=by rw[← eU];rfl
theorem zu {tt:Nat} {x y:Operand} : bQ ⟨dst,.store tt x y,ty,pos,af,gd⟩ vs=wP vs [x,y]++dst.toList:=by rw[← eU];rfl
theorem tC {x:Operand} : bQ ⟨dst,.nilCheck x,ty,pos,af,gd⟩ vs=wP vs [x]++dst.toList:=by rw[← eU];rfl
theorem rT {tt i:Nat} {x:Operand} : bQ ⟨dst,.fieldAddr tt x i,ty,pos,af,gd⟩ vs=wP vs [x]++dst.toList:=by rw[← eU];rfl
theorem zq {tt i:Nat} {x:Operand} : bQ ⟨dst,.field tt x i,ty,pos,af,gd⟩ vs=wP vs [x]++dst.toList:=by rw[← eU];rfl
theorem rU {tt:Nat} {x i:Operand} : bQ ⟨dst,.indexAddr tt x i,ty,pos,af,gd⟩ vs=wP vs [x,i]++dst.toList:=by rw[← eU];rfl
theorem zr {tt:Nat} {x i:Operand} : bQ ⟨dst,.index tt x i,ty,pos,af,gd⟩ vs=wP vs [x,i]++dst.toList:=by rw[← eU];rfl
theorem rV {tt:Nat} {x y:Operand} : bQ ⟨dst,.makeSlice tt x y,ty,pos,af,gd⟩ vs=wP vs [x,y]++dst.toList:=by rw[← eU];rfl
theorem zn {tt:Nat} : bQ ⟨dst,.alloc tt,ty,pos,af,gd⟩ vs=wP vs []++dst.toList:=by rw[← eU];rfl
theorem FJ {tt:Nat} {x:Operand} : bQ ⟨dst,.box tt x,ty,pos,af,gd⟩ vs=wP vs [x]++dst.toList:=by rw[← eU];rfl
theorem vc {tt:Nat} : bQ ⟨dst,.makeMap tt none,ty,pos,af,gd⟩ vs=wP vs []++dst.toList:=by rw[← eU];rfl
theorem xf {tt:Nat} {m i:Operand} {ok:Bool} : bQ ⟨dst,.lookup tt m i ok,ty,pos,af,gd⟩ vs=wP vs [m,i]++dst.toList:=by rw[← eU];rfl
theorem rW {tt:Nat} {m i x:Operand} : bQ ⟨dst,.mapUpdate tt m i x,ty,pos,af,gd⟩ vs=wP vs [m,i,x]++dst.toList:=by rw[← eU];rfl
theorem xe {tt:Nat} {m i x:Operand} : bQ ⟨dst,.insert tt m i x,ty,pos,af,gd⟩ vs=wP vs [m,i,x]++dst.toList:=by rw[← eU];rfl
theorem va {a b:Nat} {x:Operand} : bQ ⟨dst,.convert a b x,ty,pos,af,gd⟩ vs=wP vs [x]++dst.toList:=by rw[← eU];rfl
theorem vb {x:Operand} {i:Nat} : bQ ⟨dst,.extract x i,ty,pos,af,gd⟩ vs=wP vs [x]++dst.toList:=by rw[← eU];rfl
theorem zp {tt:Nat} {ps:List (Nat×Operand)} : bQ ⟨dst,.build tt ps.toArray,ty,pos,af,gd⟩ vs=wP vs (ps.map (·.2))++dst.toList:=by rw[← eU];rfl
theorem pO {tt len:Nat} {ps:List (Nat×Operand)} : bQ ⟨dst,.buildSlice tt len ps.toArray,ty,pos,af,gd⟩ vs=wP vs (ps.map (·.2))++dst.toList:=by rw[← eU];rfl
theorem zt {tt:Nat} {x:Operand} {lo hi mx:Option Operand} : bQ ⟨dst,.slice tt x lo hi mx,ty,pos,af,gd⟩ vs=wP vs (x::(lo.toList++(hi.toList++mx.toList)))++dst.toList:=by
 rw[← eU];cases lo<;>cases hi<;>cases mx<;>rfl
theorem CD {x:Operand} {l:List Operand} {tys:Array Nat} : bQ ⟨dst,.call ⟨.value x,l.toArray,tys⟩,ty,pos,af,gd⟩ vs=wP vs (x::l)++dst.toList:=by
 rw[← eU];simp[bQ,Op.operands,Call.operands]
theorem u9 {x:Builtin} {l:List Operand} {tys:Array Nat} : bQ ⟨dst,.call ⟨.builtin x,l.toArray,tys⟩,ty,pos,af,gd⟩ vs=wP vs l++dst.toList:=by
 rw[← eU];simp[bQ,Op.operands,Call.operands]
end
section
variable {T:Nat→Option Ty} {ty e:Nat} {dst:Option Nat} {h:Nat→Option Row}
theorem M4 {k:IntKind} {n:Int} : bK T ty e dst h (.int k n)=some ⟨.int k n,[]⟩:=Eq.trans rfl rfl
theorem HA {b:Bool} : bK T ty e dst h (.bool b)=some ⟨.bool b,[]⟩:=Eq.trans rfl rfl
theorem M8 {b:ByteArray} : bK T ty e dst h (.str b)=some ⟨.str b,[]⟩:=Eq.trans rfl rfl
theorem Qz {tg:Bool} {n:Nat} {xs:List D} : bK T ty e dst h (.sl false tg n xs)=some ⟨.sl false tg n xs,[]⟩:=Eq.trans rfl rfl
theorem M7 {x v o:Nat} : bK T ty e dst h (.ptr x v o)=some ⟨.ptr x v o,[]⟩:=Eq.trans rfl rfl
theorem Qw {xs:List D} : bK T ty e dst h (.ip xs)=some ⟨.ip xs,[]⟩:=Eq.trans rfl rfl
theorem M0 {xs:List D} : bK T ty e dst h (.agg xs)=some ⟨.agg xs,[]⟩:=Eq.trans rfl rfl
theorem M9 {xs:List D} : bK T ty e dst h (.tup xs)=some ⟨.tup xs,[]⟩:=Eq.trans rfl rfl
theorem Qv {f:Nat} : bK T ty e dst h (.fn f)=some ⟨.fn f,[]⟩:=Eq.trans rfl rfl
theorem Qx {x v:Nat} : bK T ty e dst h (.mp x v)=some ⟨.mp x v,[]⟩:=Eq.trans rfl rfl
theorem M5 {ks:List Int} {vs:List D} : bK T ty e dst h (.mpc ks vs)=some ⟨.mpc ks vs,[]⟩:=Eq.trans rfl rfl
theorem Qy {x v y:Nat} : bK T ty e dst h (.pm x v y)=some ⟨.pm x v y,[]⟩:=Eq.trans rfl rfl
theorem zX {f kk:Nat} {xs:List D} : bK T ty e dst h (.clo f kk xs)=some ⟨.clo f kk xs,[]⟩:=Eq.trans rfl rfl
def Vi (b:Bool) (T:Nat→Option Ty) (ty e d:Nat) (h:Nat→Option Row) (x:D):Option dG:=if b then bK T ty e (some d) h x else gu h x
theorem DS {d:Nat} {x:D} : Vi true T ty e d h x=bK T ty e (some d) h x:=Eq.trans rfl rfl
theorem Ay {d:Nat} {x:D} : Vi false T ty e d h x=gu h x:=Eq.trans rfl rfl
theorem Ut {q:Nat→Bool} {d:Nat} {x:D} : pc T q ty e (some d) h x=Vi (q d) T ty e d h x:=Eq.trans rfl rfl
theorem MX {k:IntKind} {n:Int} : gu h (.int k n)=some ⟨.int k n,[]⟩:=Eq.trans rfl rfl
theorem Hs {b:Bool} : gu h (.bool b)=some ⟨.bool b,[]⟩:=Eq.trans rfl rfl
theorem MY {b:ByteArray} : gu h (.str b)=some ⟨.str b,[]⟩:=Eq.trans rfl rfl
theorem MV {xs:List D} : gu h (.agg xs)=some ⟨.agg (xs.map canon),[]⟩:=Eq.trans rfl rfl
theorem Qp {a b:Bool} {n:Nat} {xs:List D} : gu h (.sl a b n xs)=some ⟨.sl false false n xs,[]⟩:=Eq.trans rfl rfl
theorem Na:bK T ty e dst h .und=some ⟨.und,[]⟩:=Eq.trans rfl rfl
def Tv (e d y s o n:Nat) (r:Row):Bool→Option dG
 | true=>some ⟨.buf y r.v s o n,[]⟩
 | false=>some ⟨.buf d e s o n,[(y,none),(d,some { r with v:=e })]⟩
theorem Ax {d y s o n:Nat} {r:Row} : Tv e d y s o n r false=some ⟨.buf d e s o n,[(y,none),(d,some { r with v:=e })]⟩:=Eq.trans rfl rfl
def Vh (e:Nat) (dst:Option Nat) (y s o n:Nat):Option Row→Option dG
 | some r=>match dst with|some d=>Tv e d y s o n r r.fz|none=>some ⟨.und,[]⟩
 | none=>some ⟨.und,[]⟩
theorem DQ {d y s o n:Nat} {r:Row} : Vh e (some d) y s o n (some r)=Tv e d y s o n r r.fz:=Eq.trans rfl rfl
theorem M3 {d y v s o n:Nat} : bK T ty e (some d) h (.buf y v s o n)=Vh e (some d) y s o n (live h y v):=by
 simp only[bK]
 cases hl:live h y v with
 | none=>rfl
 | some r =>
  obtain⟨_,hv⟩:=bN hl
  simp only[Vh]
  cases hz:r.fz<;>simp[Tv,hv,hz]
def Tw (e:Nat) (dst:Option Nat) (T:Nat→Option Ty):Option Ty→Option dG
 | some τ =>
  match dst with
  | some d=>match τ.ds with
   | .slice el=>match T el with|some φ=>some ⟨.buf d e φ.size 0 0,[(d,some ⟨e,el,[],false,true,false⟩)]⟩|none=>none
   | _=>none
  | none=>none
 | none=>none
theorem DR {d el b c:Nat} {z:List Value} {q:Bool} {φ:Ty} (hφ:T el=some φ):Tw e (some d) T (some ⟨.slice el,b,c,z,q⟩)=some ⟨.buf d e φ.size 0 0,[(d,some ⟨e,el,[],false,true,false⟩)]⟩:=by simp only[Tw,hφ]
theorem M6:bK T ty e dst h (.sl true true 0 [])=Tw e dst T (T ty):=by
 unfold bK Tw
 cases dst<;>cases T ty<;>rfl
end
def VF (x:Option D):Option dG:=match x with|some d=>some ⟨d,[]⟩|none=>none
theorem JZ (d:D):VF (some d)=some ⟨d,[]⟩:=Eq.trans rfl rfl
def ye (x:Option Ty) (f:Ty→Option dG):Option dG:=match x with|some τ=>f τ|none=>none
theorem J8 (τ:Ty) (f:Ty→Option dG):ye (some τ) f=f τ:=Eq.trans rfl rfl
def Vl (x:Option (List D×List Nat)) (h:Nat→Option Row) (ty d e:Nat):Option dG :=
 match x with
 | some (cs,fr)=>if fr.contains d=false then some ⟨.ptr d e 0,iD h fr++[(d,some ⟨e,ty,cs,false,false,false⟩)]⟩ else none
 | none=>none
theorem DW (cs:List D) (fr:List Nat) (h:Nat→Option Row) (ty d e:Nat):Vl (some (cs,fr)) h ty d e=if fr.contains d=false then some ⟨.ptr d e 0,iD h fr++[(d,some ⟨e,ty,cs,false,false,false⟩)]⟩ else none:=Eq.trans rfl rfl
def T5 (d e:Nat):Option Nat→D
 | some y =>.pm d e y
 | none =>.ptr d e 0
theorem Fe {d e y:Nat} : T5 d e (some y)=.pm d e y:=Eq.trans rfl rfl
theorem Fc {d e:Nat} : T5 d e none=.ptr d e 0:=Eq.trans rfl rfl
def Av (x:Option Ty) (ty d e:Nat) (y:Option Nat):Option dG :=
 match x with
 | some τ=>if (τ.zero.map pI).all aU then some ⟨T5 d e y,[(d,some ⟨e,ty,τ.zero.map pI,false,false,false⟩)]⟩ else none
 | none=>none
theorem yt (τ:Ty) (ty d e:Nat) (y:Option Nat):Av (some τ) ty d e y=if (τ.zero.map pI).all aU then some ⟨T5 d e y,[(d,some ⟨e,ty,τ.zero.map pI,false,false,false⟩)]⟩ else none:=Eq.trans rfl rfl
def WD (T:Nat→Option Ty) (x:Option Ty) (ty e d:Nat):Option dG:=match x with|some τ=>nP T ty τ e d|none=>none
def QT (x y:Option Ty) (d:D):Option dG :=
 match x,y,d with
 | some τ,some _,.int _ n=>(match τ.ds with | .int k=>some ⟨.int k (k.wrap n),[]⟩|_=>none)
 | _,_,_=>none
theorem Ed (k:IntKind) (b c:Nat) (z:List Value) (q:Bool) (σ:Ty) (k':IntKind) (n:Int):QT (some ⟨.int k,b,c,z,q⟩) (some σ) (.int k' n)=some ⟨.int k (k.wrap n),[]⟩:=Eq.trans rfl rfl
def TL (d:D) (i:Nat):Option dG:=match d with | .tup xs=>(match xs[i]? with|some d=>some ⟨d,[]⟩|none=>none)|_=>none
theorem IC (xs:List D) (i:Nat):TL (.tup xs) i=VF xs[i]?:=by simp only[TL,VF]
section
variable {T:Nat→Option Ty} {Γ:Env} {N F e:Nat} {ws:List W} {Q:Kt} {t:Nat→D} {h:Nat→Option Row}
theorem dw {x:Ex} : cU T Γ N F [] Q x t h e=Q x t h e:=Eq.trans rfl rfl
theorem FE:cU T Γ N F (.code .skip::ws) Q .normal t h e=cU T Γ N F ws Q .normal t h e:=Eq.trans rfl rfl
theorem Kn {a b:Code} : cU T Γ N F (.code (.seq a b)::ws) Q .normal t h e=cU T Γ N F (.code a :: .code b::ws) Q .normal t h e:=Eq.trans rfl rfl
theorem Km:cU T Γ N F (.code .ret::ws) Q .normal t h e=cU T Γ N F ws Q .ret t h e:=Eq.trans rfl rfl
theorem FC {id:Nat} : cU T Γ N F (.code (.exit id)::ws) Q .normal t h e=cU T Γ N F ws Q (.exit id) t h e:=Eq.trans rfl rfl
theorem Cs {id:Nat} {b:Code} : cU T Γ N F (.code (.block id b)::ws) Q .normal t h e=cU T Γ N F (.code b :: .blk id::ws) Q .normal t h e:=Eq.trans rfl rfl
theorem FD {b:Code} : cU T Γ N F (.code (.loop b)::ws) Q .normal t h e=N8 T Γ N F b ws Q t h e:=Eq.trans rfl rfl
theorem bq {c:Code} : cU T Γ N F (.code c::ws) Q .ret t h e=cU T Γ N F ws Q .ret t h e:=Eq.trans rfl rfl
theorem bh {c:Code} {n:Nat} : cU T Γ N F (.code c::ws) Q (.exit n) t h e=cU T Γ N F ws Q (.exit n) t h e:=Eq.trans rfl rfl
theorem rQ {id:Nat} : cU T Γ N F (.blk id::ws) Q .normal t h e=cU T Γ N F ws Q .normal t h e:=Eq.trans rfl rfl
theorem bF {id:Nat} : cU T Γ N F (.blk id::ws) Q .ret t h e=cU T Γ N F ws Q .ret t h e:=Eq.trans rfl rfl
theorem uZ {id n:Nat} : cU T Γ N F (.blk id::ws) Q (.exit n) t h e=if n=id then cU T Γ N F ws Q .normal t h e else cU T Γ N F ws Q (.exit n) t h e:=Eq.trans rfl rfl
theorem zj {i:Nat} {ops:List Oper} : cU T Γ N F (.code (.region i ops.toArray false)::ws) Q .normal t h e=kN T Γ N F ops ops ws Q t h e:=Eq.trans rfl rfl
theorem Cv {i:Nat} {ops:List Oper} : cU T Γ N F (.code (.region i ops.toArray true)::ws) Q .normal t h e=kO T Γ N F ops ops ws Q t h e []:=Eq.trans rfl rfl
theorem FB {g:Nat} {x y:Code} : cU T Γ N F (.code (.cond (.tmp g) x y)::ws) Q .normal t h e=Hl T Γ N F (t g) g x y ws Q t h e:=Eq.trans rfl rfl
theorem Cu {x y:Code} : cU T Γ N F (.code (.cond (.const (.bool true)) x y)::ws) Q .normal t h e=cU T Γ N F (.code x::ws) Q .normal t h e:=Eq.trans rfl rfl
theorem Ct {x y:Code} : cU T Γ N F (.code (.cond (.const (.bool false)) x y)::ws) Q .normal t h e=cU T Γ N F (.code y::ws) Q .normal t h e:=Eq.trans rfl rfl
theorem FM {g:Nat} {x y:Code} (hg:t g=.bool true):Hl T Γ N F (.bool true) g x y ws Q t h e=cU T Γ N F (.code x::ws) Q .normal t h e:=xi hg
theorem CH {g:Nat} {x y:Code} (hg:t g=.bool false):Hl T Γ N F (.bool false) g x y ws Q t h e=cU T Γ N F (.code y::ws) Q .normal t h e:=ur hg
theorem PY {b:Bool} {g:Nat} {x y:Code} : Hl T Γ N F (.bool b) g x y ws Q t h e=br b (cU T Γ N F (.code x::ws) Q .normal (dS t g (.bool true)) h e) (cU T Γ N F (.code y::ws) Q .normal (dS t g (.bool false)) h e):=by
 unfold Hl;rw[Te];cases b<;>simp[br]
variable {ops l:List Oper} {dst:Option Nat} {op:Op} {ty:Nat} {pos:String} {af:Array Edge} {gd:Option (Nat×Bool)} {fs:List kh}
theorem Kk:kN T Γ N F ops [] ws Q t h e=cU T Γ N F ws Q .normal t h (e+1):=Eq.trans rfl rfl
theorem Fz (hf:fits N dst=true):kN T Γ N F ops (⟨dst,op,ty,pos,af,none⟩::l) ws Q t h e=ot T Γ N F ⟨dst,op,ty,pos,af,none⟩ ops l ws Q t h e:=by
 simp only[kN,Cr,Th,hf,true_and,ot]
theorem Cp {j:Nat} {want:Bool} (hf:fits N dst=true) (hj:wI ops j=true):kN T Γ N F ops (⟨dst,op,ty,pos,af,some (j,want)⟩::l) ws Q t h e=uD T Γ N F (t (sE ops j)) (sE ops j) want ⟨dst,op,ty,pos,af,none⟩ ops l ws Q t h e:=by
 simp only[kN,Cr,Th,hf,true_and,A5 ops j hj,qQ,uD]
 cases want<;>rfl
theorem KI {g:Nat} {want:Bool} {o:Oper} : uD T Γ N F .skp g want o ops l ws Q t h e=kN T Γ N F ops l ws Q (eE t o.dst .skp) h e:=Eq.trans rfl rfl
theorem FN {g:Nat} {o:Oper} (hg:t g=.bool true):uD T Γ N F (.bool true) g true o ops l ws Q t h e=ot T Γ N F o ops l ws Q t h e:=(xl hg).trans (if_pos rfl)
theorem CI {g:Nat} {o:Oper} (hg:t g=.bool false):uD T Γ N F (.bool false) g true o ops l ws Q t h e=kN T Γ N F ops l ws Q (eE t o.dst .skp) h e:=(uu hg).trans (if_pos rfl)
theorem CJ {g:Nat} {o:Oper} (hg:t g=.bool true):uD T Γ N F (.bool true) g false o ops l ws Q t h e=kN T Γ N F ops l ws Q (eE t o.dst .skp) h e:=(xl hg).trans (if_neg (by decide))
theorem zw {g:Nat} {o:Oper} (hg:t g=.bool false):uD T Γ N F (.bool false) g false o ops l ws Q t h e=ot T Γ N F o ops l ws Q t h e:=(uu hg).trans (if_neg (by decide))
theorem PZ {b:Bool} {g:Nat} {o:Oper} : uD T Γ N F (.bool b) g true o ops l ws Q t h e=br b (ot T Γ N F o ops l ws Q (dS t g (.bool true)) h e) (kN T Γ N F ops l ws Q (eE (dS t g (.bool false)) o.dst .skp) h e):=by
 unfold uD;rw[xk];cases b<;>simp[br]
theorem MA {b:Bool} {g:Nat} {o:Oper} : uD T Γ N F (.bool b) g false o ops l ws Q t h e=br b (kN T Γ N F ops l ws Q (eE (dS t g (.bool true)) o.dst .skp) h e) (ot T Γ N F o ops l ws Q (dS t g (.bool false)) h e):=by
 unfold uD;rw[xk];cases b<;>simp[br]
theorem Kl:kO T Γ N F ops [] ws Q t h e fs=(Ba ops.toArray fs=true∧cU T Γ N F ws Q .normal t h (e+1)):=Eq.trans rfl rfl
theorem FA (hf:fits N dst=true):kO T Γ N F ops (⟨dst,op,ty,pos,af,none⟩::l) ws Q t h e fs=ou T Γ N F ⟨dst,op,ty,pos,af,none⟩ ops l ws Q t h e fs:=by
 simp only[kO,runK,Th,hf,true_and,ou]
theorem Cq {j:Nat} {want:Bool} (hf:fits N dst=true) (hj:wI ops j=true):kO T Γ N F ops (⟨dst,op,ty,pos,af,some (j,want)⟩::l) ws Q t h e fs=uE T Γ N F (t (sE ops j)) (sE ops j) want ⟨dst,op,ty,pos,af,none⟩ ops l ws Q t h e fs:=by
 simp only[kO,runK,Th,hf,true_and,A5 ops j hj,qQ,uE]
 cases want<;>rfl
theorem KK {g:Nat} {want:Bool} {o:Oper} : uE T Γ N F .skp g want o ops l ws Q t h e fs=kO T Γ N F ops l ws Q (eE t o.dst .skp) h e (fs++[⟨[],true⟩]):=Eq.trans rfl rfl
theorem FO {g:Nat} {o:Oper} (hg:t g=.bool true):uE T Γ N F (.bool true) g true o ops l ws Q t h e fs=ou T Γ N F o ops l ws Q t h e fs:=(xl hg).trans (if_pos rfl)
theorem CL {g:Nat} {o:Oper} (hg:t g=.bool false):uE T Γ N F (.bool false) g true o ops l ws Q t h e fs=kO T Γ N F ops l ws Q (eE t o.dst .skp) h e (fs++[⟨[],true⟩]):=(uu hg).trans (if_pos rfl)
theorem CM {g:Nat} {o:Oper} (hg:t g=.bool true):uE T Γ N F (.bool true) g false o ops l ws Q t h e fs=kO T Γ N F ops l ws Q (eE t o.dst .skp) h e (fs++[⟨[],true⟩]):=(xl hg).trans (if_neg (by decide))
theorem zx {g:Nat} {o:Oper} (hg:t g=.bool false):uE T Γ N F (.bool false) g false o ops l ws Q t h e fs=ou T Γ N F o ops l ws Q t h e fs:=(uu hg).trans (if_neg (by decide))
theorem P0 {b:Bool} {g:Nat} {o:Oper} : uE T Γ N F (.bool b) g true o ops l ws Q t h e fs=br b (ou T Γ N F o ops l ws Q (dS t g (.bool true)) h e fs) (kO T Γ N F ops l ws Q (eE (dS t g (.bool false)) o.dst .skp) h e (fs++[⟨[],true⟩])):=by
 unfold uE;rw[xk];cases b<;>simp[br]
theorem MB {b:Bool} {g:Nat} {o:Oper} : uE T Γ N F (.bool b) g false o ops l ws Q t h e fs=br b (kO T Γ N F ops l ws Q (eE (dS t g (.bool true)) o.dst .skp) h e (fs++[⟨[],true⟩])) (ou T Γ N F o ops l ws Q (dS t g (.bool false)) h e fs):=by
 unfold uE;rw[xk];cases b<;>simp[br]
theorem KA {d:D} {hw:List (Nat×Option Row)} : vJ T Γ N F (some ⟨d,hw⟩) dst ops l ws Q t h e=kN T Γ N F ops l ws Q (eE t dst d) (bj h hw) e:=Eq.trans rfl rfl
theorem KB {d:D} {hw:List (Nat×Option Row)} {ft:List Nat} : vK T Γ N F (some ⟨d,hw⟩) dst ft ops l ws Q t h e fs=kO T Γ N F ops l ws Q (eE t dst d) (bj h hw) e (fs++[⟨ft,hw.isEmpty⟩]):=Eq.trans rfl rfl
theorem Od {c:Prop} [Decidable c] {E:dG} : vJ T Γ N F (if c then some E else none) dst ops l ws Q t h e=(c∧vJ T Γ N F (some E) dst ops l ws Q t h e):=by
 by_cases hc:c<;>simp[hc,vJ,s6]
theorem Oe {c:Prop} [Decidable c] {E:dG} {ft:List Nat} : vK T Γ N F (if c then some E else none) dst ft ops l ws Q t h e fs=(c∧vK T Γ N F (some E) dst ft ops l ws Q t h e fs):=by
 by_cases hc:c<;>simp[hc,vK,s6]
theorem Cb {g:Nat} {a b:Operand} (hg:t g=.bool true):R3 T Γ N F (.bool true) g a b dst ops l ws Q t h e=kN T Γ N F ops l ws Q (eE t dst (ev t a)) h e:=xi hg
theorem y6 {g:Nat} {a b:Operand} (hg:t g=.bool false):R3 T Γ N F (.bool false) g a b dst ops l ws Q t h e=kN T Γ N F ops l ws Q (eE t dst (ev t b)) h e:=ur hg
theorem Cc {g:Nat} {a b:Operand} (hg:t g=.bool true):R4 T Γ N F (.bool true) g a b dst ops l ws Q t h e fs=kO T Γ N F ops l ws Q (eE t dst (ev t a)) h e (fs++[⟨[],true⟩]):=xi hg
theorem y7 {g:Nat} {a b:Operand} (hg:t g=.bool false):R4 T Γ N F (.bool false) g a b dst ops l ws Q t h e fs=kO T Γ N F ops l ws Q (eE t dst (ev t b)) h e (fs++[⟨[],true⟩]):=ur hg
theorem Ij {c:Nat} {a b:Operand} : ot T Γ N F ⟨dst,.pick (.tmp c) a b,ty,pos,af,gd⟩ ops l ws Q t h e=R3 T Γ N F (t c) c a b dst ops l ws Q t h e:=Eq.trans rfl rfl
theorem Iq {c:Nat} {a b:Operand} : ou T Γ N F ⟨dst,.pick (.tmp c) a b,ty,pos,af,gd⟩ ops l ws Q t h e fs=R4 T Γ N F (t c) c a b dst ops l ws Q t h e fs:=Eq.trans rfl rfl
theorem Ii {x:Operand} : ot T Γ N F ⟨dst,.move x,ty,pos,af,gd⟩ ops l ws Q t h e=kN T Γ N F ops l ws Q (eE t dst (ev t x)) h e:=Eq.trans rfl rfl
theorem Ip {x:Operand} : ou T Γ N F ⟨dst,.move x,ty,pos,af,gd⟩ ops l ws Q t h e fs=kO T Γ N F ops l ws Q (eE t dst (ev t x)) h e (fs++[⟨[],true⟩]):=Eq.trans rfl rfl
theorem dH {x:Option dG} (hp:∀c a b,op ≠ .pick c a b) (hx:lI T Γ e ⟨dst,op,ty,pos,af,gd⟩ (ev t) h=x):ot T Γ N F ⟨dst,op,ty,pos,af,gd⟩ ops l ws Q t h e=vJ T Γ N F x dst ops l ws Q t h e:=by
 subst hx
 unfold ot vJ Tf
 cases op<;>first|rfl|exact absurd rfl (hp _ _ _)
theorem dI {x:Option dG} (hp:∀c a b,op ≠ .pick c a b) (hx:lI T Γ e ⟨dst,op,ty,pos,af,gd⟩ (ev t) h=x):ou T Γ N F ⟨dst,op,ty,pos,af,gd⟩ ops l ws Q t h e fs=vK T Γ N F x dst (bQ ⟨dst,op,ty,pos,af,gd⟩ (ev t)) ops l ws Q t h e fs:=by
 subst hx
 unfold ou vK Tf
 cases op<;>first|rfl|exact absurd rfl (hp _ _ _)
theorem Ef {o:BinOp} {tt z:Nat} {x y:Operand} : ot T Γ N F ⟨dst,.binOp o tt x y z,ty,pos,af,gd⟩ ops l ws Q t h e=vJ T Γ N F (VF (xF T tt o (ev t x) (ev t y))) dst ops l ws Q t h e:=dH (fun _ _ _ hh=>by cases hh) (by simp only[lI];first|rfl|(cases xF T tt o (ev t x) (ev t y)<;>rfl))
theorem En {o:BinOp} {tt z:Nat} {x y:Operand} : ou T Γ N F ⟨dst,.binOp o tt x y z,ty,pos,af,gd⟩ ops l ws Q t h e fs=vK T Γ N F (VF (xF T tt o (ev t x) (ev t y))) dst (bQ ⟨dst,.binOp o tt x y z,ty,pos,af,gd⟩ (ev t)) ops l ws Q t h e fs:=dI (fun _ _ _ hh=>by cases hh) (by simp only[lI];first|rfl|(cases xF T tt o (ev t x) (ev t y)<;>rfl))
theorem Ik {o:UnOp} {tt:Nat} {x:Operand} : ot T Γ N F ⟨dst,.unOp o tt x,ty,pos,af,gd⟩ ops l ws Q t h e=vJ T Γ N F (VF (DI o (ev t x))) dst ops l ws Q t h e:=dH (fun _ _ _ hh=>by cases hh) (by simp only[lI];first|rfl|(cases DI o (ev t x)<;>rfl))
theorem Ir {o:UnOp} {tt:Nat} {x:Operand} : ou T Γ N F ⟨dst,.unOp o tt x,ty,pos,af,gd⟩ ops l ws Q t h e fs=vK T Γ N F (VF (DI o (ev t x))) dst (bQ ⟨dst,.unOp o tt x,ty,pos,af,gd⟩ (ev t)) ops l ws Q t h e fs:=dI (fun _ _ _ hh=>by cases hh) (by simp only[lI];first|rfl|(cases DI o (ev t x)<;>rfl))
theorem AX {x:Operand} : ot T Γ N F ⟨dst,.assign x,ty,pos,af,gd⟩ ops l ws Q t h e=vJ T Γ N F (pc T Γ.own ty e dst h (ev t x)) dst ops l ws Q t h e:=dH (fun _ _ _ hh=>by cases hh) rfl
theorem A0 {x:Operand} : ou T Γ N F ⟨dst,.assign x,ty,pos,af,gd⟩ ops l ws Q t h e fs=vK T Γ N F (pc T Γ.own ty e dst h (ev t x)) dst (bQ ⟨dst,.assign x,ty,pos,af,gd⟩ (ev t)) ops l ws Q t h e fs:=dI (fun _ _ _ hh=>by cases hh) rfl
theorem wa {f:Nat} {first caps:List Operand} : ot T Γ N F ⟨dst,.makeFunc (.func f) first.toArray caps.toArray,ty,pos,af,gd⟩ ops l ws Q t h e=vJ T Γ N F (if (first.map (ev t)++caps.map (ev t)).all iG then some ⟨.clo f first.length (first.map (ev t)++caps.map (ev t)),[]⟩ else none) dst ops l ws Q t h e:=dH (fun _ _ _ hh=>by cases hh) rfl
theorem wc {f:Nat} {first caps:List Operand} : ou T Γ N F ⟨dst,.makeFunc (.func f) first.toArray caps.toArray,ty,pos,af,gd⟩ ops l ws Q t h e fs=vK T Γ N F (if (first.map (ev t)++caps.map (ev t)).all iG then some ⟨.clo f first.length (first.map (ev t)++caps.map (ev t)),[]⟩ else none) dst (bQ ⟨dst,.makeFunc (.func f) first.toArray caps.toArray,ty,pos,af,gd⟩ (ev t)) ops l ws Q t h e fs:=dI (fun _ _ _ hh=>by cases hh) rfl
theorem Ig {tt:Nat} {x:Operand} : ot T Γ N F ⟨dst,.load tt x,ty,pos,af,gd⟩ ops l ws Q t h e=vJ T Γ N F (ye (T tt) fun τ=>l3 τ h (ev t x)) dst ops l ws Q t h e:=dH (fun _ _ _ hh=>by cases hh) (by simp only[lI];first|rfl|(cases T tt<;>rfl))
theorem Im {tt:Nat} {x:Operand} : ou T Γ N F ⟨dst,.load tt x,ty,pos,af,gd⟩ ops l ws Q t h e fs=vK T Γ N F (ye (T tt) fun τ=>l3 τ h (ev t x)) dst (bQ ⟨dst,.load tt x,ty,pos,af,gd⟩ (ev t)) ops l ws Q t h e fs:=dI (fun _ _ _ hh=>by cases hh) (by simp only[lI];first|rfl|(cases T tt<;>rfl))
theorem El {tt:Nat} {x y:Operand} : ot T Γ N F ⟨dst,.store tt x y,ty,pos,af,gd⟩ ops l ws Q t h e=vJ T Γ N F (ye (T tt) fun τ=>cT τ h (ev t x) (ev t y)) dst ops l ws Q t h e:=dH (fun _ _ _ hh=>by cases hh) (by simp only[lI];first|rfl|(cases T tt<;>rfl))
theorem Eu {tt:Nat} {x y:Operand} : ou T Γ N F ⟨dst,.store tt x y,ty,pos,af,gd⟩ ops l ws Q t h e fs=vK T Γ N F (ye (T tt) fun τ=>cT τ h (ev t x) (ev t y)) dst (bQ ⟨dst,.store tt x y,ty,pos,af,gd⟩ (ev t)) ops l ws Q t h e fs:=dI (fun _ _ _ hh=>by cases hh) (by simp only[lI];first|rfl|(cases T tt<;>rfl))
theorem wb {x:Operand} : ot T Γ N F ⟨dst,.nilCheck x,ty,pos,af,gd⟩ ops l ws Q t h e=vJ T Γ N F (iP h (ev t x)) dst ops l ws Q t h e:=dH (fun _ _ _ hh=>by cases hh) rfl
theorem we {x:Operand} : ou T Γ N F ⟨dst,.nilCheck x,ty,pos,af,gd⟩ ops l ws Q t h e fs=vK T Γ N F (iP h (ev t x)) dst (bQ ⟨dst,.nilCheck x,ty,pos,af,gd⟩ (ev t)) ops l ws Q t h e fs:=dI (fun _ _ _ hh=>by cases hh) rfl
theorem uF {tt i:Nat} {x:Operand} : ot T Γ N F ⟨dst,.fieldAddr tt x i,ty,pos,af,gd⟩ ops l ws Q t h e=vJ T Γ N F (ye (T tt) fun τ=>dC T τ h i (ev t x)) dst ops l ws Q t h e:=dH (fun _ _ _ hh=>by cases hh) (by simp only[lI];first|rfl|(cases T tt<;>rfl))
theorem uJ {tt i:Nat} {x:Operand} : ou T Γ N F ⟨dst,.fieldAddr tt x i,ty,pos,af,gd⟩ ops l ws Q t h e fs=vK T Γ N F (ye (T tt) fun τ=>dC T τ h i (ev t x)) dst (bQ ⟨dst,.fieldAddr tt x i,ty,pos,af,gd⟩ (ev t)) ops l ws Q t h e fs:=dI (fun _ _ _ hh=>by cases hh) (by simp only[lI];first|rfl|(cases T tt<;>rfl))
theorem Eh {tt i:Nat} {x:Operand} : ot T Γ N F ⟨dst,.field tt x i,ty,pos,af,gd⟩ ops l ws Q t h e=vJ T Γ N F (ye (T tt) fun τ=>kx T τ i (ev t x)) dst ops l ws Q t h e:=dH (fun _ _ _ hh=>by cases hh) (by simp only[lI];first|rfl|(cases T tt<;>rfl))
theorem Ep {tt i:Nat} {x:Operand} : ou T Γ N F ⟨dst,.field tt x i,ty,pos,af,gd⟩ ops l ws Q t h e fs=vK T Γ N F (ye (T tt) fun τ=>kx T τ i (ev t x)) dst (bQ ⟨dst,.field tt x i,ty,pos,af,gd⟩ (ev t)) ops l ws Q t h e fs:=dI (fun _ _ _ hh=>by cases hh) (by simp only[lI];first|rfl|(cases T tt<;>rfl))
theorem uG {tt:Nat} {x i:Operand} : ot T Γ N F ⟨dst,.indexAddr tt x i,ty,pos,af,gd⟩ ops l ws Q t h e=vJ T Γ N F (ye (T tt) fun τ=>bE T τ h (ev t x) (ev t i)) dst ops l ws Q t h e:=dH (fun _ _ _ hh=>by cases hh) (by simp only[lI];first|rfl|(cases T tt<;>rfl))
theorem uK {tt:Nat} {x i:Operand} : ou T Γ N F ⟨dst,.indexAddr tt x i,ty,pos,af,gd⟩ ops l ws Q t h e fs=vK T Γ N F (ye (T tt) fun τ=>bE T τ h (ev t x) (ev t i)) dst (bQ ⟨dst,.indexAddr tt x i,ty,pos,af,gd⟩ (ev t)) ops l ws Q t h e fs:=dI (fun _ _ _ hh=>by cases hh) (by simp only[lI];first|rfl|(cases T tt<;>rfl))
theorem Ei {tt:Nat} {x i:Operand} : ot T Γ N F ⟨dst,.index tt x i,ty,pos,af,gd⟩ ops l ws Q t h e=vJ T Γ N F (ye (T tt) fun τ=>fB T τ (ev t x) (ev t i)) dst ops l ws Q t h e:=dH (fun _ _ _ hh=>by cases hh) (by simp only[lI];first|rfl|(cases T tt<;>rfl))
theorem Er {tt:Nat} {x i:Operand} : ou T Γ N F ⟨dst,.index tt x i,ty,pos,af,gd⟩ ops l ws Q t h e fs=vK T Γ N F (ye (T tt) fun τ=>fB T τ (ev t x) (ev t i)) dst (bQ ⟨dst,.index tt x i,ty,pos,af,gd⟩ (ev t)) ops l ws Q t h e fs:=dI (fun _ _ _ hh=>by cases hh) (by simp only[lI];first|rfl|(cases T tt<;>rfl))
theorem Ej {tt:Nat} {x:Operand} {lo hi mx:Option Operand} : ot T Γ N F ⟨dst,.slice tt x lo hi mx,ty,pos,af,gd⟩ ops l ws Q t h e=vJ T Γ N F (ye (T tt) fun τ=>cF T τ h (ev t x) (lo.map (ev t)) (hi.map (ev t)) (mx.map (ev t))) dst ops l ws Q t h e:=dH (fun _ _ _ hh=>by cases hh) (by simp only[lI];first|rfl|(cases T tt<;>rfl))
theorem Es {tt:Nat} {x:Operand} {lo hi mx:Option Operand} : ou T Γ N F ⟨dst,.slice tt x lo hi mx,ty,pos,af,gd⟩ ops l ws Q t h e fs=vK T Γ N F (ye (T tt) fun τ=>cF T τ h (ev t x) (lo.map (ev t)) (hi.map (ev t)) (mx.map (ev t))) dst (bQ ⟨dst,.slice tt x lo hi mx,ty,pos,af,gd⟩ (ev t)) ops l ws Q t h e fs:=dI (fun _ _ _ hh=>by cases hh) (by simp only[lI];first|rfl|(cases T tt<;>rfl))
theorem Eg {tt:Nat} {ps:List (Nat×Operand)} : ot T Γ N F ⟨dst,.build tt ps.toArray,ty,pos,af,gd⟩ ops l ws Q t h e=vJ T Γ N F (ye (T tt) fun τ=>nL Γ.own T τ h dst (ps.map fun p=>(p.1,ev t p.2))) dst ops l ws Q t h e:=dH (fun _ _ _ hh=>by cases hh) (by simp only[lI];first|rfl|(cases T tt<;>rfl))
theorem Eo {tt:Nat} {ps:List (Nat×Operand)} : ou T Γ N F ⟨dst,.build tt ps.toArray,ty,pos,af,gd⟩ ops l ws Q t h e fs=vK T Γ N F (ye (T tt) fun τ=>nL Γ.own T τ h dst (ps.map fun p=>(p.1,ev t p.2))) dst (bQ ⟨dst,.build tt ps.toArray,ty,pos,af,gd⟩ (ev t)) ops l ws Q t h e fs:=dI (fun _ _ _ hh=>by cases hh) (by simp only[lI];first|rfl|(cases T tt<;>rfl))
theorem sB {tt len d:Nat} {ps:List (Nat×Operand)} : ot T Γ N F ⟨some d,.buildSlice tt len ps.toArray,ty,pos,af,gd⟩ ops l ws Q t h e=vJ T Γ N F (ye (T tt) fun τ=>dB T τ h e d len (ps.map fun p=>(p.1,ev t p.2))) (some d) ops l ws Q t h e:=dH (fun _ _ _ hh=>by cases hh) (by simp only[lI];first|rfl|(cases T tt<;>rfl))
theorem sC {tt len d:Nat} {ps:List (Nat×Operand)} : ou T Γ N F ⟨some d,.buildSlice tt len ps.toArray,ty,pos,af,gd⟩ ops l ws Q t h e fs=vK T Γ N F (ye (T tt) fun τ=>dB T τ h e d len (ps.map fun p=>(p.1,ev t p.2))) (some d) (bQ ⟨some d,.buildSlice tt len ps.toArray,ty,pos,af,gd⟩ (ev t)) ops l ws Q t h e fs:=dI (fun _ _ _ hh=>by cases hh) (by simp only[lI];first|rfl|(cases T tt<;>rfl))
theorem uH {tt d:Nat} {x y:Operand} : ot T Γ N F ⟨some d,.makeSlice tt x y,ty,pos,af,gd⟩ ops l ws Q t h e=vJ T Γ N F (ye (T tt) fun τ=>ov T τ e d (ev t x) (ev t y)) (some d) ops l ws Q t h e:=dH (fun _ _ _ hh=>by cases hh) (by simp only[lI];first|rfl|(cases T tt<;>rfl))
theorem uL {tt d:Nat} {x y:Operand} : ou T Γ N F ⟨some d,.makeSlice tt x y,ty,pos,af,gd⟩ ops l ws Q t h e fs=vK T Γ N F (ye (T tt) fun τ=>ov T τ e d (ev t x) (ev t y)) (some d) (bQ ⟨some d,.makeSlice tt x y,ty,pos,af,gd⟩ (ev t)) ops l ws Q t h e fs:=dI (fun _ _ _ hh=>by cases hh) (by simp only[lI];first|rfl|(cases T tt<;>rfl))
theorem Ee {tt d:Nat} : ot T Γ N F ⟨some d,.alloc tt,ty,pos,af,gd⟩ ops l ws Q t h e=vJ T Γ N F (Av (T tt) tt d e (Γ.hint d)) (some d) ops l ws Q t h e:=dH (fun _ _ _ hh=>by cases hh) (by simp only[lI];cases T tt with|none=>rfl|some τ=>(dsimp only[Av];cases Γ.hint d<;>rfl))
theorem Em {tt d:Nat} : ou T Γ N F ⟨some d,.alloc tt,ty,pos,af,gd⟩ ops l ws Q t h e fs=vK T Γ N F (Av (T tt) tt d e (Γ.hint d)) (some d) (bQ ⟨some d,.alloc tt,ty,pos,af,gd⟩ (ev t)) ops l ws Q t h e fs:=dI (fun _ _ _ hh=>by cases hh) (by simp only[lI];cases T tt with|none=>rfl|some τ=>(dsimp only[Av];cases Γ.hint d<;>rfl))
theorem yF {tt d:Nat} : ot T Γ N F ⟨some d,.makeMap tt none,ty,pos,af,gd⟩ ops l ws Q t h e=vJ T Γ N F (WD T (T tt) tt e d) (some d) ops l ws Q t h e:=dH (fun _ _ _ hh=>by cases hh) (by simp only[lI];first|rfl|(cases T tt<;>rfl))
theorem yJ {tt d:Nat} : ou T Γ N F ⟨some d,.makeMap tt none,ty,pos,af,gd⟩ ops l ws Q t h e fs=vK T Γ N F (WD T (T tt) tt e d) (some d) (bQ ⟨some d,.makeMap tt none,ty,pos,af,gd⟩ (ev t)) ops l ws Q t h e fs:=dI (fun _ _ _ hh=>by cases hh) (by simp only[lI];first|rfl|(cases T tt<;>rfl))
theorem AZ {tt:Nat} {m i:Operand} {ok:Bool} : ot T Γ N F ⟨dst,.lookup tt m i ok,ty,pos,af,gd⟩ ops l ws Q t h e=vJ T Γ N F (ye (T tt) fun τ=>ij T τ h (ev t m) (ev t i) ok) dst ops l ws Q t h e:=dH (fun _ _ _ hh=>by cases hh) (by simp only[lI];first|rfl|(cases T tt<;>rfl))
theorem A2 {tt:Nat} {m i:Operand} {ok:Bool} : ou T Γ N F ⟨dst,.lookup tt m i ok,ty,pos,af,gd⟩ ops l ws Q t h e fs=vK T Γ N F (ye (T tt) fun τ=>ij T τ h (ev t m) (ev t i) ok) dst (bQ ⟨dst,.lookup tt m i ok,ty,pos,af,gd⟩ (ev t)) ops l ws Q t h e fs:=dI (fun _ _ _ hh=>by cases hh) (by simp only[lI];first|rfl|(cases T tt<;>rfl))
theorem uI {tt:Nat} {m i x:Operand} : ot T Γ N F ⟨dst,.mapUpdate tt m i x,ty,pos,af,gd⟩ ops l ws Q t h e=vJ T Γ N F (ye (T tt) fun τ=>dq T τ h (ev t m) (ev t i) (ev t x)) dst ops l ws Q t h e:=dH (fun _ _ _ hh=>by cases hh) (by simp only[lI];first|rfl|(cases T tt<;>rfl))
theorem uM {tt:Nat} {m i x:Operand} : ou T Γ N F ⟨dst,.mapUpdate tt m i x,ty,pos,af,gd⟩ ops l ws Q t h e fs=vK T Γ N F (ye (T tt) fun τ=>dq T τ h (ev t m) (ev t i) (ev t x)) dst (bQ ⟨dst,.mapUpdate tt m i x,ty,pos,af,gd⟩ (ev t)) ops l ws Q t h e fs:=dI (fun _ _ _ hh=>by cases hh) (by simp only[lI];first|rfl|(cases T tt<;>rfl))
theorem AY {tt:Nat} {m i x:Operand} : ot T Γ N F ⟨dst,.insert tt m i x,ty,pos,af,gd⟩ ops l ws Q t h e=vJ T Γ N F (ye (T tt) fun τ=>dq T τ h (ev t m) (ev t i) (ev t x)) dst ops l ws Q t h e:=dH (fun _ _ _ hh=>by cases hh) (by simp only[lI];first|rfl|(cases T tt<;>rfl))
theorem A1 {tt:Nat} {m i x:Operand} : ou T Γ N F ⟨dst,.insert tt m i x,ty,pos,af,gd⟩ ops l ws Q t h e fs=vK T Γ N F (ye (T tt) fun τ=>dq T τ h (ev t m) (ev t i) (ev t x)) dst (bQ ⟨dst,.insert tt m i x,ty,pos,af,gd⟩ (ev t)) ops l ws Q t h e fs:=dI (fun _ _ _ hh=>by cases hh) (by simp only[lI];first|rfl|(cases T tt<;>rfl))
theorem Nx {tt d:Nat} {x:Operand} : ot T Γ N F ⟨some d,.box tt x,ty,pos,af,gd⟩ ops l ws Q t h e=vJ T Γ N F (Vl (dX h (ev t x)) h tt d e) (some d) ops l ws Q t h e:=dH (fun _ _ _ hh=>by cases hh) (by simp only[lI];first|rfl|(cases dX h (ev t x)<;>rfl))
theorem Ny {tt d:Nat} {x:Operand} : ou T Γ N F ⟨some d,.box tt x,ty,pos,af,gd⟩ ops l ws Q t h e fs=vK T Γ N F (Vl (dX h (ev t x)) h tt d e) (some d) (bQ ⟨some d,.box tt x,ty,pos,af,gd⟩ (ev t)) ops l ws Q t h e fs:=dI (fun _ _ _ hh=>by cases hh) (by simp only[lI];first|rfl|(cases dX h (ev t x)<;>rfl))
theorem yD {a b:Nat} {x:Operand} : ot T Γ N F ⟨dst,.convert a b x,ty,pos,af,gd⟩ ops l ws Q t h e=vJ T Γ N F (QT (T b) (T a) (ev t x)) dst ops l ws Q t h e:=dH (fun _ _ _ hh=>by cases hh) rfl
theorem yH {a b:Nat} {x:Operand} : ou T Γ N F ⟨dst,.convert a b x,ty,pos,af,gd⟩ ops l ws Q t h e fs=vK T Γ N F (QT (T b) (T a) (ev t x)) dst (bQ ⟨dst,.convert a b x,ty,pos,af,gd⟩ (ev t)) ops l ws Q t h e fs:=dI (fun _ _ _ hh=>by cases hh) rfl
theorem yE {x:Nat} {i:Nat} : ot T Γ N F ⟨dst,.extract (.tmp x) i,ty,pos,af,gd⟩ ops l ws Q t h e=vJ T Γ N F (TL (t x) i) dst ops l ws Q t h e:=dH (fun _ _ _ hh=>by cases hh) rfl
theorem yI {x:Nat} {i:Nat} : ou T Γ N F ⟨dst,.extract (.tmp x) i,ty,pos,af,gd⟩ ops l ws Q t h e fs=vK T Γ N F (TL (t x) i) dst (bQ ⟨dst,.extract (.tmp x) i,ty,pos,af,gd⟩ (ev t)) ops l ws Q t h e fs:=dI (fun _ _ _ hh=>by cases hh) rfl
theorem Ie {x:Operand} {YC:List Operand} {tys:Array Nat} : ot T Γ N F ⟨dst,.call ⟨.value x,YC.toArray,tys⟩,ty,pos,af,gd⟩ ops l ws Q t h e=vJ T Γ N F (gn Γ h e dst (ev t x) (YC.map (ev t))) dst ops l ws Q t h e:=dH (fun _ _ _ hh=>by cases hh) rfl
theorem Il {x:Operand} {YC:List Operand} {tys:Array Nat} : ou T Γ N F ⟨dst,.call ⟨.value x,YC.toArray,tys⟩,ty,pos,af,gd⟩ ops l ws Q t h e fs=vK T Γ N F (gn Γ h e dst (ev t x) (YC.map (ev t))) dst (bQ ⟨dst,.call ⟨.value x,YC.toArray,tys⟩,ty,pos,af,gd⟩ (ev t)) ops l ws Q t h e fs:=dI (fun _ _ _ hh=>by cases hh) rfl
theorem yC {x:Builtin} {YC:List Operand} {tys:List Nat} : ot T Γ N F ⟨dst,.call ⟨.builtin x,YC.toArray,tys.toArray⟩,ty,pos,af,gd⟩ ops l ws Q t h e=vJ T Γ N F (cn T h e dst x tys (YC.map (ev t))) dst ops l ws Q t h e:=dH (fun _ _ _ hh=>by cases hh) rfl
theorem yG {x:Builtin} {YC:List Operand} {tys:List Nat} : ou T Γ N F ⟨dst,.call ⟨.builtin x,YC.toArray,tys.toArray⟩,ty,pos,af,gd⟩ ops l ws Q t h e fs=vK T Γ N F (cn T h e dst x tys (YC.map (ev t))) dst (bQ ⟨dst,.call ⟨.builtin x,YC.toArray,tys.toArray⟩,ty,pos,af,gd⟩ (ev t)) ops l ws Q t h e fs:=dI (fun _ _ _ hh=>by cases hh) rfl
theorem cj {o:Array Oper} {A:Prop} (h1:Ba o fs=true) (h2:A):Ba o fs=true∧A:=⟨h1,h2⟩
theorem ak {b:Bool} {g:Nat} {x y:Code} (h1:b=true→cU T Γ N F (.code x::ws) Q .normal (dS t g (.bool true)) h e) (h2:b=false→cU T Γ N F (.code y::ws) Q .normal (dS t g (.bool false)) h e):Hl T Γ N F (.bool b) g x y ws Q t h e:=by rw[PY];exact⟨h1,h2⟩
theorem bB {b:Bool} {g:Nat} {o:Oper} (h1:b=true→ot T Γ N F o ops l ws Q (dS t g (.bool true)) h e) (h2:b=false→kN T Γ N F ops l ws Q (eE (dS t g (.bool false)) o.dst .skp) h e):uD T Γ N F (.bool b) g true o ops l ws Q t h e:=by rw[PZ];exact⟨h1,h2⟩
theorem aX {b:Bool} {g:Nat} {o:Oper} (h1:b=true→kN T Γ N F ops l ws Q (eE (dS t g (.bool true)) o.dst .skp) h e) (h2:b=false→ot T Γ N F o ops l ws Q (dS t g (.bool false)) h e):uD T Γ N F (.bool b) g false o ops l ws Q t h e:=by rw[MA];exact⟨h1,h2⟩
theorem oV {b:Bool} {g:Nat} {o:Oper} (h1:b=true→ou T Γ N F o ops l ws Q (dS t g (.bool true)) h e fs) (h2:b=false→kO T Γ N F ops l ws Q (eE (dS t g (.bool false)) o.dst .skp) h e (fs++[⟨[],true⟩])):uE T Γ N F (.bool b) g true o ops l ws Q t h e fs:=by rw[P0];exact⟨h1,h2⟩
theorem S7 {b:Bool} {g:Nat} {o:Oper} (h1:b=true→kO T Γ N F ops l ws Q (eE (dS t g (.bool true)) o.dst .skp) h e (fs++[⟨[],true⟩])) (h2:b=false→ou T Γ N F o ops l ws Q (dS t g (.bool false)) h e fs):uE T Γ N F (.bool b) g false o ops l ws Q t h e fs:=by rw[MB];exact⟨h1,h2⟩
def TK (mode:Mode) (T:Nat→Option Ty) (lent:Option (D×Row)) (rs:List ResultVar) (r:RK×Option Row):Kt:=fun x t h e=>Vr mode T lent rs x t h e r
theorem yS {mode:Mode} {lent:Option (D×Row)} {rs:List ResultVar} {r:RK×Option Row} : TK mode T lent rs r .normal t h e=(gT mode T lent rs ⟨t,h,e⟩=some r):=Eq.trans rfl rfl
theorem du {mode:Mode} {lent:Option (D×Row)} {rs:List ResultVar} {r:RK×Option Row} : TK mode T lent rs r .ret t h e=(gT mode T lent rs ⟨t,h,e⟩=some r):=Eq.trans rfl rfl
theorem ax {mode:Mode} {fn:Func} {c:Code} {n:Nat} {rs:List ResultVar} {args:List D} {r:RK×Option Row} (hb:fn.body=some c) (hn:fn.ntmps=n) (hr:fn.results=rs.toArray) (hw:cU T Γ n F [.code c] (TK mode T none rs r) .normal (K3 args) UY 0) (hpk:n≤1000000:=by exact Nat.le_of_ble_eq_true rfl):aP mode T Γ F fn none args=some r:=by
 refine Tl ?_ (by rw[hn];exact hpk)
 unfold Yd
 rw[hb,hn,hr]
 exact hw
def WR (r:Row) (i:Nat):Option Row:=if i=0 then some r else none
theorem Kj (r:Row) (i:Nat):WR r i=if i=0 then some r else none:=Eq.trans rfl rfl
theorem oa {mode:Mode} {fn:Func} {c:Code} {n:Nat} {rs:List ResultVar} {d0:D} {ty:Nat} {cells:List D} {fz lst:Bool} {args:List D} {r:RK×Option Row} (hb:fn.body=some c) (hn:fn.ntmps=n) (hr:fn.results=rs.toArray)
  (hw:cU T Γ n F [.code c] (TK mode T (some (d0,⟨0,ty,cells,fz,lst,false⟩)) rs r) .normal (K3 (d0::args)) (WR ⟨0,ty,cells,fz,lst,false⟩) 1) (hpk:n≤1000000:=by exact Nat.le_of_ble_eq_true rfl):aP mode T Γ F fn (some (d0,⟨0,ty,cells,fz,lst,false⟩)) args=some r:=by
 refine Tl ?_ (by rw[hn];exact hpk)
 unfold Yd
 rw[hb,hn,hr]
 exact hw
end
end Go.Proofs.YtpkahnkoecbndaaGreatDoor.Am
namespace Go.Proofs.YtpkahnkoecbndaaGreatDoor.P
open Go.RowKit
set_option linter.unusedSimpArgs false
set_option linter.unusedVariables false
def FU:Nat:=1000000000000000000000000
def l4 {σ ρ:Type} (body:σ→Option (σ⊕ρ)):Nat→σ→Option ρ
 | 0,_=>none
 | n+1,s =>
  match body s with
  | some (.inl s')=>l4 body n s'
  | some (.inr r)=>some r
  | none=>none
def aW {σ ρ:Type} (body:σ→Option (σ⊕ρ)) (s:σ):Option ρ:=l4 body FU s
theorem Rv {σ ρ:Type} {body:σ→Option (σ⊕ρ)} (I:σ→Prop) (μ:σ→Nat) (Q:ρ→Prop)
  (hstep:∀s,I s→(∃s',body s=some (.inl s')∧I s'∧μ s'<μ s)∨(∃r,body s=some (.inr r)∧Q r)):∀(n:Nat) (s:σ),I s→μ s<n→∃r,l4 body n s=some r∧Q r:=by
 intro n
 induction n with
 | zero=>intro s _ h;omega
 | succ n ih =>
  intro s hI hμ
  rcases hstep s hI with⟨s',h1,h2,h3⟩|⟨r,h1,h2⟩
  ·obtain⟨r,h4,h5⟩:=ih s' h2 (by omega)
   exact⟨r,by simp only[l4,h1];exact h4,h5⟩
  ·exact⟨r,by simp only[l4,h1],h2⟩
theorem fC {σ ρ:Type} {body:σ→Option (σ⊕ρ)} (I:σ→Prop) (μ:σ→Nat) (Q:ρ→Prop) {s:σ} (hI:I s) (hμ:μ s<FU)
  (hstep:∀s,I s→(∃s',body s=some (.inl s')∧I s'∧μ s'<μ s)∨(∃r,body s=some (.inr r)∧Q r)):∃r,aW body s=some r∧Q r:=Rv I μ Q hstep FU s hI hμ
def idx {α:Type} (l:List α) (i:Int):Option α:=if 0≤i∧i<l.length then l[i.toNat]? else none
def T8 (s:ByteArray) (i:Int):Option Int:=if 0≤i then (s[i.toNat]?).map fun b=>(b.toNat:Int) else none
def Cx {α:Type} (l:List α) (a b:Int):Option (List α):=if 0≤a∧a≤b∧b≤l.length then some ((l.drop a.toNat).take (b.toNat-a.toNat)) else none
def KU {α:Type} (bytes:Nat) (n c:Int) (z:α):Option (List α):=if 0≤n∧n≤c∧c≤maxLen∧c.toNat*bytes≤140737488355328 then some (List.replicate n.toNat z) else none
def gC {α:Type} (bytes:Nat) (l m:List α):Option (List α):=if l.length+m.length≤maxLen∧(l.length+m.length)*bytes≤140737488355328 then some (l++m) else none
def xG (k:IntKind) (x y:Int):Option Int:=if y=0 then none else some (k.wrap (x.tdiv y))
def uA (_:IntKind) (x y:Int):Option Int:=if y=0 then none else some (x.tmod y)
def DH (k:IntKind) (x y:Int):Option Int:=if y<0 then none else some (k.wrap (x*2 ^ (min y.toNat k.bits)))
def uC (k:IntKind) (x y:Int):Option Int:=if y<0 then none else some (x.fdiv (2 ^ (min y.toNat k.bits)))
def mv (op:BinOp) (k:IntKind) (x y:Int):Int :=
 let a:=BitVec.ofInt k.bits x
 let b:=BitVec.ofInt k.bits y
 match op with
 | .and=>k.wrap (a &&& b).toNat
 | .or=>k.wrap (a ||| b).toNat
 | .xor=>k.wrap (a ^^^ b).toNat
 | _=>k.wrap (a &&& ~~~b).toNat
def TN {α:Type} : List (Int×α)→Int→Bool
 | [],_=>false
 | (k,_)::m,n=>k==n||TN m n
def fY (l:List Int):List Int:=l.mergeSort fun x y=>decide (x≤y)
theorem fp (l:List Int):(fY l).length=l.length:=List.length_mergeSort l
theorem yl:fY []=[]:=by simp[fY]
theorem ae {α β:Type} {o:Option α} {f:α→Option β} {r:β} (h:o.bind f=some r):∃a,o=some a∧f a=some r:=by
 cases o with
 | none=>cases h
 | some a=>exact⟨a,rfl,h⟩
theorem Wv {α:Type} {b:Bool} {x y r:α} (hb:b=true) (h:(if b=true then x else y)=r):x=r:=by rw[if_pos hb]at h;exact h
theorem Wu {α:Type} {b:Bool} {x y r:α} (hb:b=false) (h:(if b=true then x else y)=r):y=r:=by rw[hb]at h;simpa using h
theorem ai {a b:Prop} (x:a) (y:b):a∧b:=⟨x,y⟩
theorem sp {α:Type} {b:Bool} {P1 P2 Q:Prop} {x y r:α} (k:(b=true→P1)→(b=false→P2)→Q) (h:(if b=true then x else y)=r) (h1:b=true→x=r→P1) (h2:b=false→y=r→P2):Q:=k (fun hb=>h1 hb (Wv hb h)) fun hb=>h2 hb (Wu hb h)
end Go.Proofs.YtpkahnkoecbndaaGreatDoor.P
namespace Go.Proofs.YtpkahnkoecbndaaGreatDoor.Am
open Go.RowKit Go.Proofs.YtpkahnkoecbndaaGreatDoor.P
set_option linter.unusedSimpArgs false
set_option linter.unusedVariables false
structure jC (α:Type) where
 cells:α→List D
 size:Nat
 len:∀x,(cells x).length=size
 pos:0<size
 inj:∀x y,cells x=cells y→x=y
def ab {α:Type} (e:jC α):List α→List D
 | []=>[]
 | x::l=>e.cells x++ab e l
section
variable {α β:Type} (e:jC α)
theorem wx:ab e []=[]:=rfl
theorem aN (x:α) (l:List α):ab e (x::l)=e.cells x++ab e l:=rfl
theorem fP:∀l m:List α,ab e (l++m)=ab e l++ab e m
 | [],m=>rfl
 | x::l,m=>by rw[List.cons_append,aN,aN,fP l m,List.append_assoc]
theorem cL:∀l:List α,(ab e l).length=l.length*e.size
 | []=>by simp[ab]
 | x::l=>by rw[aN,List.length_append,cL l,e.len,List.length_cons,Nat.succ_mul];omega
theorem tK:∀(l:List α) (i:Nat),(ab e l).drop (i*e.size)=ab e (l.drop i)
 | l,0=>by simp
 | [],i+1=>by simp[ab]
 | x::l,i+1=>by
  rw[aN,List.drop_succ_cons,← tK l i,List.drop_append,e.len,List.drop_eq_nil_of_le (by rw[e.len,Nat.succ_mul];omega),List.nil_append]
  congr 1
  rw[Nat.succ_mul];omega
theorem fm:∀(l:List α) (i:Nat),(ab e l).take (i*e.size)=ab e (l.take i)
 | l,0=>by simp[ab]
 | [],i+1=>by simp[ab]
 | x::l,i+1=>by
  rw[aN,List.take_succ_cons,aN,List.take_append,e.len,List.take_of_length_le (by rw[e.len,Nat.succ_mul];omega),← fm l i]
  congr 2
  rw[Nat.succ_mul];omega
theorem sL:∀l m:List α,ab e l=ab e m→l=m
 | [],[],_=>rfl
 | [],y::m,h=>by
  have:=congrArg List.length h
  have hp:=e.pos
  rw[aN,List.length_append,e.len]at this
  simp[ab]at this
  omega
 | x::l,[],h=>by
  have:=congrArg List.length h
  have hp:=e.pos
  rw[aN,List.length_append,e.len]at this
  simp[ab]at this
  omega
 | x::l,y::m,h=>by
  rw[aN,aN]at h
  obtain⟨h1,h2⟩:=List.append_inj h (by rw[e.len,e.len])
  rw[e.inj _ _ h1,sL l m h2]
theorem Bj:∀(n:Nat) (x:α),n0 n (e.cells x)=ab e (List.replicate n x)
 | 0,x=>by simp[n0,ab]
 | n+1,x=>by rw[List.replicate_succ,aN,← Bj n x];simp[n0,List.replicate_succ]
end
def eI (k:IntKind):jC Int:=⟨fun n=>[.int k n],1,fun _=>rfl,by decide,fun x y h=>by simpa using h⟩
def gr:jC Bool:=⟨fun n=>[.bool n],1,fun _=>rfl,by decide,fun x y h=>by simpa using h⟩
def fF:jC ByteArray:=⟨fun n=>[.str n],1,fun _=>rfl,by decide,fun x y h=>by simpa using h⟩
def pQ {α:Type} (e:jC α):jC (List α):=⟨fun l=>[.sl false false l.length (ab e l)],1,fun _=>rfl,by decide,fun x y h=>by
 simp only[List.cons.injEq,D.sl.injEq,true_and,and_true]at h
 exact sL e _ _ h.2⟩
def kv {α β:Type} (e:jC α) (f:jC β):jC (α×β):=⟨fun x=>e.cells x.1++f.cells x.2,e.size+f.size,fun x=>by rw[List.length_append,e.len,f.len],Nat.lt_of_lt_of_le e.pos (Nat.le_add_right _ _),fun x y h=>by
 obtain⟨h1,h2⟩:=List.append_inj h (by rw[e.len,e.len])
 exact Prod.ext (e.inj _ _ h1) (f.inj _ _ h2)⟩
def zF {α β:Type} (e:jC β) (f:α→β) (hf:∀x y,f x=f y→x=y):jC α:=⟨fun x=>e.cells (f x),e.size,fun x=>e.len _,e.pos,fun x y h=>hf _ _ (e.inj _ _ h)⟩
structure Arg (α:Type) where
 d:α→D
 inj:∀x y,d x=d y→x=y
def aI (k:IntKind):Arg Int:=⟨fun n =>.int k n,fun x y h=>by simpa using h⟩
def Wf:Arg Bool:=⟨fun n =>.bool n,fun x y h=>by simpa using h⟩
def Ts:Arg ByteArray:=⟨fun n =>.str n,fun x y h=>by simpa using h⟩
def iI {α:Type} (e:jC α):Arg (List α):=⟨fun l =>.sl false false l.length (ab e l),fun x y h=>by
 simp only[D.sl.injEq,true_and]at h
 exact sL e _ _ h.2⟩
def dm {α:Type} (e:jC α):Arg α:=⟨fun x =>.agg (e.cells x),fun x y h=>e.inj _ _ (by simpa using h)⟩
theorem XP (k:IntKind) (n:Int):(aI k).d n=.int k n:=Eq.trans rfl rfl
theorem Vf {α:Type} (e:jC α) (x:α):(dm e).d x=.agg (e.cells x):=Eq.trans rfl rfl
theorem wg (k:IntKind) (n:Int):(eI k).cells n=[.int k n]:=Eq.trans rfl rfl
theorem yM (n:Bool):gr.cells n=[.bool n]:=Eq.trans rfl rfl
theorem Bc (n:ByteArray):fF.cells n=[.str n]:=Eq.trans rfl rfl
theorem xJ {α:Type} (e:jC α) (l:List α):(pQ e).cells l=[.sl false false l.length (ab e l)]:=Eq.trans rfl rfl
structure mo (α:Type) where
 ds:α→List D
 inj:∀x y,ds x=ds y→x=y
def Tn:mo Unit:=⟨fun _=>[],fun _ _ _=>rfl⟩
def dR {α:Type} (a:Arg α):mo α:=⟨fun x=>[a.d x],fun x y h=>a.inj _ _ (by simpa using h)⟩
def dU {α β:Type} (a:Arg α) (b:mo β):mo (α×β):=⟨fun x=>a.d x.1::b.ds x.2,fun x y h=>by
 simp only[List.cons.injEq]at h
 exact Prod.ext (a.inj _ _ h.1) (b.inj _ _ h.2)⟩
noncomputable def eN {α β:Type} (A:mo α) (F:α→Option β) (R:β→RK):Option (D×Row)→List D→Option (RK×Option Row):=fun lent ds =>
 match lent with
 | none=>open Classical in if h:∃a,A.ds a=ds then (F (Classical.choose h)).map fun r=>(R r,none) else none
 | some _=>none
theorem aJ {α β:Type} (A:mo α) (F:α→Option β) (R:β→RK) (a:α):eN A F R none (A.ds a)=(F a).map fun r=>(R r,none):=by
 have h:∃b,A.ds b=A.ds a:=⟨a,rfl⟩
 simp only[eN]
 rw[dif_pos h,A.inj _ _ (Classical.choose_spec h)]
theorem pF {α β:Type} {A:mo α} {F:α→Option β} {R:β→RK} {lent:Option (D×Row)} {ds:List D} {rk:RK} {out:Option Row} (h:eN A F R lent ds=some (rk,out)):lent=none∧out=none∧∃a r,ds=A.ds a∧F a=some r∧rk=R r:=by
 unfold eN at h
 split at h
 ·split at h
  ·rename_i he
   rw[Option.map_eq_some_iff]at h
   obtain⟨r,h1,h2⟩:=h
   simp only[Prod.mk.injEq]at h2
   obtain⟨rfl,rfl⟩:=h2
   exact⟨rfl,rfl,_,r,(Classical.choose_spec he).symm,h1,rfl⟩
  ·cases h
 ·cases h
structure bM (P:Program) (f:FuncId) (G:Option (D×Row)→List D→Option (RK×Option Row)):Prop where
 calls:∀lent YC rk out,G lent YC=some (rk,out)→oW P f lent YC rk out
 callable:hZ P f
theorem bM.of {P:Program} {T:Nat→Option Ty} {Γ:Env} (hT:kV P T) (hΓ:bR P Γ) (hm:P.follows .mixedOrders=true) {α β:Type} {A:mo α} {F:α→Option β} {R:β→RK} {mode:Mode} {f:FuncId} {fn:Func} (hf:P.funcs[f]? = some fn) (hok:(match fn.body with|some c=>codeOk c|none=>true)=true)
  (hc:(fn.name == "runtime.NumGoroutine")=false∧fn.body.isNone=false) (hn:∀a,(A.ds a).length≤fn.ntmps) (h:∀a r,F a=some r→aP mode T Γ FU fn none (A.ds a)=some (R r,none)):bM P f (eN A F R) where
 calls lent YC rk out hg:=by
  obtain⟨rfl,rfl,a,r,rfl,hr,rfl⟩:=pF hg
  exact kd hT hΓ hm hf hok (hn a) rfl (h a r hr)
 callable:=⟨fn,hf,hc⟩
theorem bR.add {P:Program} {Γ:Env} (hΓ:bR P Γ) {f:Nat} {G:Option (D×Row)→List D→Option (RK×Option Row)} (h:bM P f G) (l:Bool):bR P (Am.ext Γ f l G):=hΓ.ext h.calls h.callable
section
variable {T:Nat→Option Ty} {Γ:Env} {N e:Nat} {ws:List W} {Q:Kt} {t:Nat→D} {h:Nat→Option Row}
def LK {σ ρ:Type} (Rel:σ→(Nat→D)→(Nat→Option Row)→Nat→Prop) (RelX:ρ→Ex→(Nat→D)→(Nat→Option Row)→Nat→Prop) (c:σ⊕ρ):Kt:=fun x t h e =>
 match x with
 | .normal=>∃s',c=.inl s'∧Rel s' t h e
 | x=>∃o,c=.inr o∧RelX o x t h e
theorem jg {σ ρ:Type} {Rel:σ→(Nat→D)→(Nat→Option Row)→Nat→Prop} {RelX:ρ→Ex→(Nat→D)→(Nat→Option Row)→Nat→Prop} {s':σ} (k:Rel s' t h e):LK Rel RelX (.inl s') .normal t h e:=⟨s',rfl,k⟩
theorem kX {σ ρ:Type} {Rel:σ→(Nat→D)→(Nat→Option Row)→Nat→Prop} {RelX:ρ→Ex→(Nat→D)→(Nat→Option Row)→Nat→Prop} {o:ρ} {n:Nat} (k:RelX o (.exit n) t h e):LK Rel RelX (.inr o) (.exit n) t h e:=⟨o,rfl,k⟩
theorem yW {σ ρ:Type} {Rel:σ→(Nat→D)→(Nat→Option Row)→Nat→Prop} {RelX:ρ→Ex→(Nat→D)→(Nat→Option Row)→Nat→Prop} {o:ρ} (k:RelX o .ret t h e):LK Rel RelX (.inr o) .ret t h e:=⟨o,rfl,k⟩
theorem az {σ ρ:Type} {body:σ→Option (σ⊕ρ)} {b:Code} (Rel:σ→(Nat→D)→(Nat→Option Row)→Nat→Prop) (RelX:ρ→Ex→(Nat→D)→(Nat→Option Row)→Nat→Prop) {s0:σ} {out:ρ} (hL:aW body s0=some out) (h0:Rel s0 t h e)
  (hstep:∀s t h e,Rel s t h e→∀c,body s=some c→cU T Γ N FU [.code b] (LK Rel RelX c) .normal t h e)
  (hexit:∀x t h e,RelX out x t h e→cU T Γ N FU ws Q x t h e):N8 T Γ N FU b ws Q t h e:=by
 have key:∀(n:Nat) (s:σ) (t:Nat→D) (h:Nat→Option Row) (e:Nat),Rel s t h e→l4 body n s=some out→∃x s',iter (gO T Γ N FU b) n ⟨t,h,e⟩=some (x,s')∧cU T Γ N FU ws Q x s'.t s'.h s'.e:=by
  intro n
  induction n with
  | zero=>intro s t h e _ hi;cases hi
  | succ n ih =>
   intro s t h e hR hi
   simp only[l4]at hi
   cases hb:body s with
   | none=>rw[hb]at hi;cases hi
   | some c =>
    rw[hb]at hi
    obtain⟨x,s1,h1,h2⟩:=Tk _ _ _ _ _ (show KV T Γ N FU b t h e (LK Rel RelX c) from hstep s t h e hR c hb)
    simp only[iter,h1]
    cases x with
    | normal =>
     obtain⟨s',rfl,h4⟩:=h2
     exact ih s' s1.t s1.h s1.e h4 hi
    | exit m =>
     obtain⟨o,rfl,h4⟩:=h2
     simp only[Option.some.injEq]at hi
     subst hi
     exact⟨_,_,rfl,hexit _ _ _ _ h4⟩
    | ret =>
     obtain⟨o,rfl,h4⟩:=h2
     simp only[Option.some.injEq]at hi
     subst hi
     exact⟨_,_,rfl,hexit _ _ _ _ h4⟩
 exact key FU s0 t h e h0 hL
theorem xh {d:D} {g:Nat} {A B A' B':(Nat→D)→Prop} (hk:MJ d t g A B) (h1:∀t,A t→A' t) (h2:∀t,B t→B' t):MJ d t g A' B':=by
 cases d with
 | bool b=>exact⟨fun hb=>h1 _ (hk.1 hb),fun hb=>h2 _ (hk.2 hb)⟩
 | _=>exact hk
theorem CP {d:D} {g:Nat} {A B S A' B' S':(Nat→D)→Prop} (hk:wpS d t g A B S) (h1:∀t,A t→A' t) (h2:∀t,B t→B' t) (h3:∀t,S t→S' t):wpS d t g A' B' S':=by
 unfold wpS at hk ⊢
 split at hk
 ·exact h3 _ hk
 ·exact xh hk h1 h2
theorem B2 {α:Type} {x:Option α} {K K':α→Prop} (hk:s6 x K) (h1:∀a,K a→K' a):s6 x K':=by
 cases x with
 | none=>exact hk
 | some a=>exact h1 a hk
theorem KR {ops:List Oper} {gd:Option (Nat×Bool)} {A B A' B':(Nat→D)→Prop} (hk:Th ops t gd A B) (h1:∀t,A t→A' t) (h2:∀t,B t→B' t):Th ops t gd A' B':=by
 unfold Th at hk ⊢
 split
 ·exact h1 _ hk
 ·rename_i j want
  refine B2 hk fun g hg=>CP hg ?_ ?_ h2
  ·intro t ht;cases want<;>simp_all
  ·intro t ht;cases want<;>simp_all
theorem xj {o:Oper} {K K':(Nat→D)→dG→Prop} (hk:Tf T Γ e o t h K) (h1:∀t E,K t E→K' t E):Tf T Γ e o t h K':=by
 unfold Tf at hk ⊢
 split
 ·rename_i ho
  rw[ho]at hk
  exact xh hk (fun _ h=>h1 _ _ h) (fun _ h=>h1 _ _ h)
 ·rename_i hne
  split at hk
  ·rename_i c a b ho;exact absurd ho (hne _ _ _)
  ·exact B2 hk (fun _ h=>h1 _ _ h)
theorem um {ops:List Oper} {K K':(Nat→D)→(Nat→Option Row)→Prop} (h1:∀t h,K t h→K' t h):∀(l:List Oper) (t:Nat→D) (h:Nat→Option Row),Cr T Γ N e ops l t h K→Cr T Γ N e ops l t h K'
 | [],t,h,hk=>h1 _ _ hk
 | o::l,t,h,hk=>by
  unfold Cr at hk ⊢
  exact⟨hk.1,KR hk.2 (fun t ht=>xj ht fun t E hE=>um h1 l _ _ hE) (fun t ht=>um h1 l _ _ ht)⟩
theorem ui {ops:List Oper} {K K':(Nat→D)→(Nat→Option Row)→List kh→Prop} (h1:∀t h fs,K t h fs→K' t h fs):∀(l:List Oper) (t:Nat→D) (h:Nat→Option Row) (fs:List kh),runK T Γ N e ops l t h fs K→runK T Γ N e ops l t h fs K'
 | [],t,h,fs,hk=>h1 _ _ _ hk
 | o::l,t,h,fs,hk=>by
  unfold runK at hk ⊢
  exact⟨hk.1,KR hk.2 (fun t ht=>xj ht fun t E hE=>ui h1 l _ _ _ hE) (fun t ht=>ui h1 l _ _ _ ht)⟩
theorem Tj {ops:Array Oper} {draw:Bool} {K K':(Nat→D)→(Nat→Option Row)→Prop} (hk:XB T Γ N ops draw t h e K) (h1:∀t h,K t h→K' t h):XB T Γ N ops draw t h e K':=by
 unfold XB at hk ⊢
 cases draw with
 | true=>exact ui (fun t h fs hh=>⟨hh.1,h1 _ _ hh.2⟩) _ _ _ _ hk
 | false=>exact um h1 _ _ _ hk
theorem P7 {F:Nat} : ∀(c:Code) (t:Nat→D) (h:Nat→Option Row) (e:Nat) (K K':Kt),KV T Γ N F c t h e K→(∀x t h e,K x t h e→K' x t h e)→KV T Γ N F c t h e K':=by
 intro c
 induction c with
 | skip=>intro t h e K K' hk hm;exact hm _ _ _ _ hk
 | region i ops draw=>intro t h e K K' hk hm;exact Tj hk fun t h hh=>hm _ _ _ _ hh
 | seq a b iha ihb =>
  intro t h e K K' hk hm
  refine iha _ _ _ _ _ hk fun x t h e hx =>?_
  cases x with
  | normal=>exact ihb _ _ _ _ _ hx hm
  | exit n=>exact hm _ _ _ _ hx
  | ret=>exact hm _ _ _ _ hx
 | cond c x y ihx ihy =>
  intro t h e K K' hk hm
  unfold KV at hk ⊢
  cases c with
  | tmp g=>exact xh hk (fun t ht=>ihx _ _ _ _ _ ht hm) (fun t ht=>ihy _ _ _ _ _ ht hm)
  | const v =>
   cases v with
   | bool b =>
    cases b with
    | true=>exact ihx _ _ _ _ _ hk hm
    | false=>exact ihy _ _ _ _ _ hk hm
   | _=>exact hk
  | _=>exact hk
 | block id b ih =>
  intro t h e K K' hk hm
  refine ih _ _ _ _ _ hk fun x t h e hx =>?_
  cases x with
  | normal=>exact hm _ _ _ _ hx
  | ret=>exact hm _ _ _ _ hx
  | exit n =>
   unfold QC at hx ⊢
   simp only at hx ⊢
   split at hx
   ·rename_i hn;rw[if_pos hn];exact hm _ _ _ _ hx
   ·rename_i hn;rw[if_neg hn];exact hm _ _ _ _ hx
 | loop b ih =>
  intro t h e K K' hk hm
  obtain⟨x,s,h1,h2⟩:=hk
  exact⟨x,s,h1,hm _ _ _ _ h2⟩
 | exit id=>intro t h e K K' hk hm;exact hm _ _ _ _ hk
 | ret=>intro t h e K K' hk hm;exact hm _ _ _ _ hk
 | _=>intro t h e K K' hk;exact hk.elim
def CK {σ:Type} (J:σ→(Nat→D)→(Nat→Option Row)→Nat→Prop) (P:σ→Prop) (R:Kt):Kt:=fun x t h e =>
 match x with
 | .normal=>∃s,P s∧J s t h e
 | x=>R x t h e
theorem an {σ:Type} {J:σ→(Nat→D)→(Nat→Option Row)→Nat→Prop} {P:σ→Prop} {R:Kt} : CK J P R .normal t h e = ∃s,P s∧J s t h e:=Eq.trans rfl rfl
end
section
variable {h:Nat→Option Row}
theorem D5 {k:IntKind} {n:Int} : canon (.int k n)=.int k n:=Eq.trans rfl rfl
theorem AR {b:Bool} : canon (.bool b)=.bool b:=Eq.trans rfl rfl
theorem D7 {b:ByteArray} : canon (.str b)=.str b:=Eq.trans rfl rfl
theorem HP {a b:Bool} {n:Nat} {xs:List D} : canon (.sl a b n xs)=.sl false false n xs:=Eq.trans rfl rfl
theorem AO {k:IntKind} {n:Int} : eX (.int k n)=.int k n:=Eq.trans rfl rfl
theorem yA {b:Bool} : eX (.bool b)=.bool b:=Eq.trans rfl rfl
theorem AQ {b:ByteArray} : eX (.str b)=.str b:=Eq.trans rfl rfl
theorem D4 {a b:Bool} {n:Nat} {xs:List D} : eX (.sl a b n xs)=.sl false false n xs:=Eq.trans rfl rfl
theorem AN {xs:List D} : eX (.agg xs)=.agg (xs.map canon):=Eq.trans rfl rfl
def TC (x s o n:Nat):Option Row→Option (D×List Nat)
 | some r=>if o+n*s≤r.cells.length then some (.sl false false n ((r.cells.drop o).take (n*s)),[x]) else none
 | none=>none
theorem H0 {x s o n:Nat} {r:Row} : TC x s o n (some r)=if o+n*s≤r.cells.length then some (.sl false false n ((r.cells.drop o).take (n*s)),[x]) else none:=Eq.trans rfl rfl
def Wk (x o:Nat):Option Row→Option (D×List Nat)
 | some r=>if o≤r.cells.length then some (.ip (r.cells.drop o),[x]) else none
 | none=>none
theorem H6 {x o:Nat} {r:Row} : Wk x o (some r)=if o≤r.cells.length then some (.ip (r.cells.drop o),[x]) else none:=Eq.trans rfl rfl
theorem HW {k:IntKind} {n:Int} : bT h (.int k n)=some (.int k n,[]):=Eq.trans rfl rfl
theorem D9 {b:Bool} : bT h (.bool b)=some (.bool b,[]):=Eq.trans rfl rfl
theorem HZ {b:ByteArray} : bT h (.str b)=some (.str b,[]):=Eq.trans rfl rfl
theorem Ns {a b:Bool} {n:Nat} {xs:List D} : bT h (.sl a b n xs)=some (.sl false false n xs,[]):=Eq.trans rfl rfl
theorem HS {xs:List D} : bT h (.agg xs)=some (.agg (xs.map canon),[]):=Eq.trans rfl rfl
theorem Np {xs:List D} : bT h (.ip xs)=some (.ip xs,[]):=Eq.trans rfl rfl
theorem No {f:Nat} : bT h (.fn f)=some (.fn f,[]):=Eq.trans rfl rfl
theorem HU {x v s o n:Nat} : bT h (.buf x v s o n)=TC x s o n (live h x v):=by
 simp only[bT,aO,dn]
 cases live h x v with
 | none=>rfl
 | some r=>by_cases hc:o+n*s≤r.cells.length<;>simp[TC,hc,canon]
theorem HY {x v o:Nat} : bT h (.ptr x v o)=Wk x o (live h x v):=by
 simp only[bT,aO]
 cases live h x v with
 | none=>rfl
 | some r=>simp only[Wk]
theorem QW {k:IntKind} {n:Int} : dX h (.int k n)=some ([.int k n],[]):=Eq.trans rfl rfl
theorem Nw {b:Bool} : dX h (.bool b)=some ([.bool b],[]):=Eq.trans rfl rfl
theorem QX {b:ByteArray} : dX h (.str b)=some ([.str b],[]):=Eq.trans rfl rfl
theorem Uv {a b:Bool} {n:Nat} {xs:List D} : dX h (.sl a b n xs)=some ([.sl a b n xs],[]):=Eq.trans rfl rfl
theorem QU {xs:List D} : dX h (.agg xs)=some (xs,[]):=Eq.trans rfl rfl
def XW:Option (D×List Nat)→Option (List D×List Nat)
 | some (d,fr)=>some ([d],fr)
 | none=>none
theorem Ic {d:D} {fr:List Nat} : XW (some (d,fr))=some ([d],fr):=Eq.trans rfl rfl
theorem QV {x v s o n:Nat} : dX h (.buf x v s o n)=XW (TC x s o n (live h x v)):=by
 simp only[dX,dn]
 cases live h x v with
 | none=>rfl
 | some r=>by_cases hc:o+n*s≤r.cells.length<;>simp[TC,XW,hc]
def XS (h:Nat→Option Row):Option (D×List Nat)→Option dG
 | some (d,fr)=>some ⟨d,iD h fr⟩
 | none=>none
theorem H3 {d:D} {fr:List Nat} : XS h (some (d,fr))=some ⟨d,iD h fr⟩:=Eq.trans rfl rfl
theorem MW {x v s o n:Nat} : gu h (.buf x v s o n)=XS h (TC x s o n (live h x v)):=by
 simp only[gu,nJ,dn]
 cases live h x v with
 | none=>rfl
 | some r=>by_cases hc:o+n*s≤r.cells.length<;>simp[TC,XS,hc,canon,eX]
variable {Γ:Env} {f g e:Nat} {l:Bool} {G:Option (D×Row)→List D→Option (RK×Option Row)} {lent:Option (D×Row)} {YC:List D} {dst:Option Nat} {fr:List Nat}
theorem EK:(Am.ext Γ f l G).lends g=if g=f then l else Γ.lends g:=Eq.trans rfl rfl
theorem NG:(Am.ext Γ f l G).sem g lent YC=if g=f then G lent YC else Γ.sem g lent YC:=Eq.trans rfl rfl
theorem NF {d:Nat} : (Am.ext Γ f l G).own d=Γ.own d:=Eq.trans rfl rfl
theorem E5 {d:Nat} : aV.own d=true:=Eq.trans rfl rfl
theorem Je {d i:Nat} : (Am.keep d Γ).own i=(i != d&&Γ.own i):=Eq.trans rfl rfl
theorem BQ {d i:Nat} : (Am.keep d Γ).lends i=Γ.lends i:=Eq.trans rfl rfl
theorem Jf {d i:Nat} : (Am.keep d Γ).sem i lent YC=Γ.sem i lent YC:=Eq.trans rfl rfl
def CV (lends:Bool) (Γ:Env) (h:Nat→Option Row) (e:Nat) (dst:Option Nat) (g:Nat) (args:List D):Option dG :=
 if lends then
  match args with
  | .buf x v s o n::rest=>rB Γ h e dst g x v (.buf 0 0 s o n) rest
  | .ptr x v o::rest=>rB Γ h e dst g x v (.ptr 0 0 o) rest
  | _=>none
 else su Γ h e dst g args
def TA (p:Option (Nat×Nat×Nat)) (Γ:Env) (h:Nat→Option Row) (e:Nat) (dst:Option Nat) (g:Nat) (args:List D):Option dG :=
 match p with
 | some p=>rA h e dst p args
 | none =>
  match Γ.grw g with
  | some p=>rz h p args
  | none=>CV (Γ.lends g) Γ h e dst g args
def Vo (p:Option Grow) (Γ:Env) (h:Nat→Option Row) (e:Nat) (dst:Option Nat) (g:Nat) (args:List D):Option dG :=
 match p with
 | some p=>rz h p args
 | none=>CV (Γ.lends g) Γ h e dst g args
theorem D1 {args:List D} : TA none Γ h e dst g args=Vo (Γ.grw g) Γ h e dst g args:=Eq.trans rfl rfl
theorem DZ {args:List D} : Vo none Γ h e dst g args=CV (Γ.lends g) Γ h e dst g args:=Eq.trans rfl rfl
theorem D0 {p:Grow} {args:List D} : Vo (some p) Γ h e dst g args=rz h p args:=Eq.trans rfl rfl
theorem NC {f:Nat} {l:Bool} {G:Option (D×Row)→List D→Option (RK×Option Row)} : (Am.ext Γ f l G).grw g=Γ.grw g:=Eq.trans rfl rfl
theorem Jc {d:Nat} : (Am.keep d Γ).grw g=Γ.grw g:=Eq.trans rfl rfl
theorem I2 {d y:Nat} : (Am.uR d y Γ).grw g=Γ.grw g:=Eq.trans rfl rfl
theorem I7 {f:Nat} {p:Nat×Nat×Nat} : (Am.BM f p Γ).grw g=Γ.grw g:=Eq.trans rfl rfl
theorem E3:aV.grw g=none:=Eq.trans rfl rfl
theorem IW {f:Nat} {p:Grow} : (Am.xR f p Γ).grw g=if g=f then some p else Γ.grw g:=Eq.trans rfl rfl
theorem IX {f:Nat} {p:Grow} : (Am.xR f p Γ).ins g=Γ.ins g:=Eq.trans rfl rfl
theorem BH {f:Nat} {p:Grow} : (Am.xR f p Γ).lends g=Γ.lends g:=Eq.trans rfl rfl
theorem IZ {f:Nat} {p:Grow} {l:Option (D×Row)} {YC:List D} : (Am.xR f p Γ).sem g l YC=Γ.sem g l YC:=Eq.trans rfl rfl
theorem IY {f:Nat} {p:Grow} {d:Nat} : (Am.xR f p Γ).own d=Γ.own d:=Eq.trans rfl rfl
theorem ET {f:Nat} {p:Grow} {d:Nat} : (Am.xR f p Γ).hint d=Γ.hint d:=Eq.trans rfl rfl
def XI (v:Nat):Option Row→Option (Row×Nat×Nat×Nat)
 | some r=>if r.v=v∧r.mp=true then (match r.cells with | [.ph y s n]=>some (r,y,s,n)|_=>none) else none
 | none=>none
theorem Jq {x v:Nat} : j7 h x v=XI v (h x):=by
 unfold j7 XI
 cases h x<;>rfl
theorem Jt {v ty y s n:Nat} {fz lst:Bool} : XI v (some ⟨v,ty,[.ph y s n],fz,lst,true⟩)=some (⟨v,ty,[.ph y s n],fz,lst,true⟩,y,s,n):=by simp[XI]
def QE (p:Grow) (y k:Nat) (rest:List D):Option (Row×Nat×Nat×Nat)→Option Row→Option dG
 | some (ry,k',s,n),some r =>
   if k'=k∧k=PK+y∧ry.fz=false∧r.mp=false∧r.fz=false∧r.lst=true∧s=p.k∧r.ty=p.ty∧r.cells.length=n*p.k∧(n+1)*p.bytes≤140737488355328 then
    match p.sem r.cells rest with
    | some cs=>some ⟨.int .i64 (n:Int),[(k,some ⟨r.v,p.ty,r.cells++cs,false,true,false⟩),(y,some ⟨ry.v,ry.ty,[.ph k p.k (n+1)],false,false,true⟩)]⟩
    | none=>none
   else none
 | _,_=>none
theorem Nf {p:Grow} {y v k:Nat} {rest:List D} : rz h p (.pm y v k::rest)=QE p y k rest (j7 h y v) (h k):=Eq.trans rfl rfl
def Uu (k y v ty e' ty' k' n:Nat) (cells:List D):Option (List D)→Option dG
 | some cs=>some ⟨.int .i64 (n:Int),[(k,some ⟨e',ty',cells++cs,false,true,false⟩),(y,some ⟨v,ty,[.ph k k' (n+1)],false,false,true⟩)]⟩
 | none=>none
theorem AF {ty' k' by_:Nat} {sem:List D→List D→Option (List D)} {y k:Nat} {rest:List D} {v ty s n e' tyr:Nat} {cells:List D} : QE ⟨ty',k',by_,sem⟩ y k rest (some (⟨v,ty,[.ph k s n],false,false,true⟩,k,s,n)) (some ⟨e',tyr,cells,false,true,false⟩) =
  if k=1000000+y∧s=k'∧tyr=ty'∧cells.length=n*k'∧(n+1)*by_≤140737488355328 then Uu k y v ty e' ty' k' n cells (sem cells rest) else none:=by
 simp only[QE,PK,true_and]
 cases sem cells rest<;>rfl
theorem AG {k y v ty e' ty' k' n:Nat} {cells cs:List D} : Uu k y v ty e' ty' k' n cells (some cs)=some ⟨.int .i64 (n:Int),[(k,some ⟨e',ty',cells++cs,false,true,false⟩),(y,some ⟨v,ty,[.ph k k' (n+1)],false,false,true⟩)]⟩:=Eq.trans rfl rfl
theorem D2 {p:Nat×Nat×Nat} {args:List D} : TA (some p) Γ h e dst g args=rA h e dst p args:=Eq.trans rfl rfl
theorem ND {f:Nat} {l:Bool} {G:Option (D×Row)→List D→Option (RK×Option Row)} : (Am.ext Γ f l G).ins g=Γ.ins g:=Eq.trans rfl rfl
theorem Jd {d:Nat} : (Am.keep d Γ).ins g=Γ.ins g:=Eq.trans rfl rfl
theorem I3 {d y:Nat} : (Am.uR d y Γ).ins g=Γ.ins g:=Eq.trans rfl rfl
theorem E4:aV.ins g=none:=Eq.trans rfl rfl
theorem I8 {f:Nat} {p:Nat×Nat×Nat} : (Am.BM f p Γ).ins g=if g=f then some p else Γ.ins g:=Eq.trans rfl rfl
theorem BN {f:Nat} {p:Nat×Nat×Nat} : (Am.BM f p Γ).lends g=Γ.lends g:=Eq.trans rfl rfl
theorem Ja {f:Nat} {p:Nat×Nat×Nat} {l:Option (D×Row)} {YC:List D} : (Am.BM f p Γ).sem g l YC=Γ.sem g l YC:=Eq.trans rfl rfl
theorem I9 {f:Nat} {p:Nat×Nat×Nat} {d:Nat} : (Am.BM f p Γ).own d=Γ.own d:=Eq.trans rfl rfl
theorem EW {f:Nat} {p:Nat×Nat×Nat} {d:Nat} : (Am.BM f p Γ).hint d=Γ.hint d:=Eq.trans rfl rfl
def QF (ty k by_ x y s s' o o' n m:Nat) (i:Int) (e:Nat) (d:Nat):Option Row→Option Row→Option dG
 | some r,some r' =>
   if r.fz=false∧r'.fz=false∧r.lst=true∧r'.lst=true∧x≠y∧s=k∧s'=k∧r.ty=ty∧r'.ty=ty∧o=0∧o'=0∧r.cells.length=n*k∧r'.cells.length=m*k∧0≤i∧i≤n∧0<m∧(n+m)*by_≤140737488355328 then
    some ⟨.buf d e k 0 (n+m),[(y,none),(x,none),(d,some ⟨e,ty,r.cells.take (i.toNat*k)++(r'.cells++r.cells.drop (i.toNat*k)),false,true,false⟩)]⟩
   else none
 | _,_=>none
theorem Ng {ty k by_ x v s o n y v' s' o' m d:Nat} {i:Int} : rA h e (some d) (ty,k,by_) [.buf x v s o n,.int .i64 i,.buf y v' s' o' m]=QF ty k by_ x y s s' o o' n m i e d (live h x v) (live h y v'):=by
 simp only[rA,QF]
 cases live h x v with
 | none=>rfl
 | some r=>cases live h y v'<;>rfl
theorem AH {ty k by_ x y s s' o o' n m : Nat} {i : Int} {d : Nat} {r r' : Row} : QF ty k by_ x y s s' o o' n m i e d (some r) (some r') = if r.fz = false ∧ r'.fz = false ∧ r.lst = true ∧ r'.lst = true ∧ x ≠ y ∧ s = k ∧ s' = k ∧ r.ty = ty ∧ r'.ty = ty ∧ o = 0 ∧ o' = 0 ∧ r.cells.length = n * k ∧ r'.cells.length = m * k ∧ 0 ≤ i ∧ i ≤ n ∧ 0 < m ∧ (n + m) * by_ ≤ 140737488355328 then
        some ⟨.buf d e k 0 (n + m), [(y, none), (x, none), (d, some ⟨e, ty, r.cells.take (i.toNat * k) ++ (r'.cells ++ r.cells.drop (i.toNat * k)), false, true, false⟩)]⟩
      else none := Eq.trans rfl rfl
theorem Nh {args:List D} : gn Γ h e dst (.fn g) args=TA (Γ.ins g) Γ h e dst g args:=by
 simp only[gn,TA,CV]
 cases Γ.ins g with
 | none=>cases Γ.grw g<;>rfl
 | some p=>rfl
def OV (h:Nat→Option Row) (e:Nat) (dst:Option Nat) (fr:List Nat):Option (RK×Option Row)→Option dG
 | some (.clean r,_)=>some ⟨r,if fG r then [] else iD h fr⟩
 | some (.fresh ty s n cells,_) =>
  match dst with
  | some d=>if fr.contains d=false then some ⟨.buf d e s 0 n,(if nS cells then [] else iD h fr)++[(d,some ⟨e,ty,cells,false,true,false⟩)]⟩ else none
  | none=>none
 | _=>none
def Vn (Γ:Env) (h:Nat→Option Row) (e:Nat) (dst:Option Nat) (g:Nat):Option (List D×List Nat)→Option dG
 | some (YC,fr)=>OV h e dst fr (Γ.sem g none YC)
 | none=>none
theorem D3 {args:List D} : CV false Γ h e dst g args=Vn Γ h e dst g (cf h args):=by
 simp only[CV,Bool.false_eq_true,if_false,su,Vn]
 cases cf h args with
 | none=>rfl
 | some p =>
  obtain⟨YC,fr⟩:=p
  simp only
  cases hs:Γ.sem g none YC with
  | none=>rfl
  | some q =>
   obtain⟨rk,o⟩:=q
   cases rk<;>rfl
theorem DY:Vn Γ h e dst g (some (YC,fr))=OV h e dst fr (Γ.sem g none YC):=Eq.trans rfl rfl
def Ri (h:Nat→Option Row) (fr:List Nat):Bool→List (Nat×Option Row)
 | true=>[]
 | false=>iD h fr
theorem ES:Ri h fr true=[]:=Eq.trans rfl rfl
theorem Bx:Ri h fr false=iD h fr:=Eq.trans rfl rfl
theorem IG {b:Bool} : Ri h [] b=[]:=by cases b<;>rfl
theorem AL {r:D} {o:Option Row} : OV h e dst fr (some (.clean r,o))=some ⟨r,Ri h fr (fG r)⟩:=by
 simp only[OV]
 cases fG r<;>rfl
theorem NH:iD h []=[]:=Eq.trans rfl rfl
theorem IH {x:Nat} : iD h (x::fr)=(x,(h x).map pB)::iD h fr:=Eq.trans rfl rfl
theorem Rl {v ty:Nat} {cells:List D} {lst mp:Bool} : pB ⟨v,ty,cells,true,lst,mp⟩=⟨v,ty,cells,true,lst,mp⟩:=Eq.trans rfl rfl
theorem Rj {v ty:Nat} {cells:List D} {lst mp:Bool} : pB ⟨v,ty,cells,false,lst,mp⟩=⟨v,ty,cells,true,true,mp⟩:=Eq.trans rfl rfl
theorem Ea:cf h []=some ([],[]):=Eq.trans rfl rfl
def XR (p:Option (D×List Nat)) (q:Option (List D×List Nat)):Option (List D×List Nat) :=
 match p,q with
 | some (d',fr),some (ds',fr')=>some (d'::ds',fr++fr')
 | _,_=>none
theorem HD {d:D} {fr fr':List Nat} {ds:List D} : XR (some (d,fr)) (some (ds,fr'))=some (d::ds,fr++fr'):=Eq.trans rfl rfl
theorem AS {d:D} {ds:List D} : cf h (d::ds)=XR (bT h d) (cf h ds):=by
 simp only[cf]
 cases bT h d with
 | none=>rfl
 | some p=>cases cf h ds<;>rfl
variable {T:Nat→Option Ty} {s:St} {rs:List ResultVar} {r:ResultVar}
theorem Kh:vI T s []=some ([],[]):=Eq.trans rfl rfl
theorem Fy:vI T s (r::rs)=XR (Kf T s r) (vI T s rs):=by
 simp only[vI]
 cases Kf T s r with
 | none=>rfl
 | some p=>cases vI T s rs<;>rfl
theorem Kg {t:Nat→D} {i:Nat} : Kf T ⟨t,h,e⟩ (.tmp i)=bT h (t i):=Eq.trans rfl rfl
def VH (T:Nat→Option Ty) (h:Nat→Option Row) (d:D) (τ:Option Ty):Option (D×List Nat) :=
 match τ,d with
 | some τ,.ptr x v o=>match dp τ h (.ptr x v o) with|some E=>some (eX E.val,[])|none=>none
 | _,_=>none
theorem Fw {t:Nat→D} {i ty:Nat} : Kf T ⟨t,h,e⟩ (.cell i ty)=VH T h (t i) (T ty):=Eq.trans rfl rfl
def VI:Option dG→Option (D×List Nat)
 | some E=>some (eX E.val,[])
 | none=>none
theorem Fx {d:D} {w:List (Nat×Option Row)} : VI (some ⟨d,w⟩)=some (eX d,[]):=Eq.trans rfl rfl
theorem Ke {τ:Ty} {x v o:Nat} : VH T h (.ptr x v o) (some τ)=VI (dp τ h (.ptr x v o)):=by
 simp only[VH,VI]
def Vq (p:Option (List D×List Nat)):Option (RK×Option Row) :=
 match p with
 | some (ds,_)=>some (.clean (pk ds),none)
 | none=>none
theorem EC {ds:List D} {fr:List Nat} : Vq (some (ds,fr))=some (.clean (pk ds),none):=Eq.trans rfl rfl
theorem Bk:gT .clean T none rs s=Vq (vI T s rs):=by
 simp only[gT,sM,kB,TZ,Vq]
 cases vI T s rs<;>rfl
theorem AM {ty sz n d:Nat} {cells:List D} {o:Option Row} : OV h e (some d) fr (some (.fresh ty sz n cells,o))=if fr.contains d=false then some ⟨.buf d e sz 0 n,Ri h fr (nS cells)++[(d,some ⟨e,ty,cells,false,true,false⟩)]⟩ else none:=by
 simp only[OV]
 cases nS cells<;>rfl
theorem xM {k:IntKind} : ∀l:List Int,nS (ab (eI k) l)=true
 | []=>rfl
 | x::l=>by
  have:=xM (k:=k) l
  simp only[aN,wg,List.cons_append,List.nil_append,nS,fG,this,Bool.and_self]
theorem Bl {ty sz i:Nat} {t:Nat→D} : gT (.fresh ty sz) T none [.tmp i] ⟨t,h,e⟩=lk ty sz h (t i):=Eq.trans rfl rfl
theorem Bm {i:Nat} {t:Nat→D} : gT .tight T none [.tmp i] ⟨t,h,e⟩=tM (t i):=Eq.trans rfl rfl
theorem Rc {nl tg:Bool} {n:Nat} {xs:List D} : tM (.sl nl tg n xs)=some (.clean (.sl nl tg n xs),none):=Eq.trans rfl rfl
theorem NA {ty sz x v o n:Nat} : lk ty sz h (.buf x v sz o n)=tL ty sz o n (live h x v):=by simp[lk]
theorem Ra {ty sz:Nat} {nl tg:Bool} {xs:List D} : lk ty sz h (.sl nl tg 0 xs)=if tg=true then some (.fresh ty sz 0 [],none) else none:=Eq.trans rfl rfl
theorem Iw {ty sz o n:Nat} {r:Row} : tL ty sz o n (some r)=if r.fz=false∧r.ty=ty∧o+n*sz≤r.cells.length then some (.fresh ty sz n ((r.cells.drop o).take (n*sz)),none) else none:=Eq.trans rfl rfl
theorem Cl {d:D} : pk [d]=d:=Eq.trans rfl rfl
theorem Cm {d d':D} {ds:List D} : pk (d::d'::ds)=.tup (d::d'::ds):=Eq.trans rfl rfl
end
theorem Nz (k:IntKind):(eI k).size=1:=Eq.trans rfl rfl
theorem Bb:gr.size=1:=Eq.trans rfl rfl
theorem EA:fF.size=1:=Eq.trans rfl rfl
theorem Iv {α:Type} (e:jC α):(pQ e).size=1:=Eq.trans rfl rfl
section
variable {α:Type} (E:jC α) {l m:List α} {x x' z:α} {i a b n c:Int} {B:Nat}
theorem sW (h:P.idx l i=some x):0≤i∧i<l.length:=by
 unfold P.idx at h
 split at h
 ·assumption
 ·cases h
theorem Lw (h:P.idx l i=some x):l[i.toNat]? = some x:=by
 unfold P.idx at h
 split at h
 ·exact h
 ·cases h
theorem wJ (h:P.idx l i=some x):(ab E l).drop (i.toNat*E.size)=E.cells x++ab E (l.drop (i.toNat+1)):=by
 have h':=Lw h
 obtain⟨hi,rfl⟩:=List.getElem?_eq_some_iff.1 h'
 rw[tK,List.drop_eq_getElem_cons hi]
 rfl
theorem uc (h:P.idx l i=some x):i.toNat*E.size+E.size≤l.length*E.size:=by
 have h':=sW h
 have:i.toNat+1≤l.length:=by omega
 have:=Nat.mul_le_mul_right E.size this
 rwa [Nat.succ_mul]at this
theorem bH (h:P.idx l i=some x):(0≤i∧i<l.length)∧(ab E l).drop (i.toNat*E.size)=E.cells x++ab E (l.drop (i.toNat+1))∧i.toNat*E.size+E.size≤l.length*E.size:=⟨sW h,wJ E h,uc E h⟩
theorem Se:∀(l:List α) (i:Nat) (x:α),l[i]? = some x→∀x',ab E (l.set i x')=(ab E l).take (i*E.size)++E.cells x'++(ab E l).drop (i*E.size+E.size)
 | [],i,x,h,x'=>by simp at h
 | y::l,0,x,h,x'=>by
  rw[List.set_cons_zero,aN,aN,Nat.zero_mul,List.take_zero,List.nil_append,Nat.zero_add,List.drop_append,E.len,Nat.sub_self,List.drop_zero,List.drop_eq_nil_of_le (by rw[E.len];exact Nat.le_refl _),List.nil_append]
 | y::l,i+1,x,h,x'=>by
  have ih:=Se l i x (by simpa using h) x'
  rw[List.set_cons_succ,aN,aN,ih,Nat.succ_mul]
  have hy:=E.len y
  have e1:(E.cells y++ab E l).take (i*E.size+E.size)=E.cells y++(ab E l).take (i*E.size):=by rw[List.take_append,hy,List.take_of_length_le (by omega),Nat.add_sub_cancel]
  have e2:(E.cells y++ab E l).drop (i*E.size+E.size+E.size)=(ab E l).drop (i*E.size+E.size):=by
   rw[List.drop_append,hy,List.drop_eq_nil_of_le (by omega),List.nil_append,Nat.add_sub_cancel]
  rw[e1,e2]
  simp only[List.append_assoc]
theorem jJ (fo:Nat) (cs:List D) (h:P.idx l i=some x) (hc:E.cells x'=putCells (E.cells x) fo cs) (hfo:fo+cs.length≤E.size):putCells (ab E l) (i.toNat*E.size+fo) cs=ab E (l.set i.toNat x'):=by
 have h':=Lw h
 rw[Se E l i.toNat x h' x',hc]
 have he:=wJ E h
 have hf:=uc E h
 have hl:=cL E l
 have hx:=E.len x
 have hsplit:ab E l=(ab E l).take (i.toNat*E.size)++(E.cells x++(ab E l).drop (i.toNat*E.size+E.size)):=by
  have h1:=List.take_append_drop (i.toNat*E.size) (ab E l)
  have h2:(ab E l).drop (i.toNat*E.size+E.size)=ab E (l.drop (i.toNat+1)):=by
   rw[← List.drop_drop,he,List.drop_append,hx,Nat.sub_self,List.drop_zero,List.drop_eq_nil_of_le (by omega),List.nil_append]
  rw[h2,← he,h1]
 generalize (ab E l).drop (i.toNat*E.size+E.size)=r at *
 generalize ht:(ab E l).take (i.toNat*E.size)=p at *
 have hp:p.length=i.toNat*E.size:=by rw[← ht];simp;omega
 unfold putCells
 rw[hsplit]
 have e1:(p++(E.cells x++r)).take (i.toNat*E.size+fo)=p++(E.cells x).take fo:=by
  rw[List.take_append,hp,List.take_of_length_le (by omega),Nat.add_sub_cancel_left,List.take_append_of_le_length (by omega)]
 have e2:(p++(E.cells x++r)).drop (i.toNat*E.size+fo+cs.length)=(E.cells x).drop (fo+cs.length)++r:=by
  rw[Nat.add_assoc,List.drop_append,hp,List.drop_eq_nil_of_le (by omega),Nat.add_sub_cancel_left,List.nil_append,List.drop_append_of_le_length (by omega)]
 rw[e1,e2]
 simp only[List.append_assoc]
theorem R6 (h:P.idx l i=some x):putCells (ab E l) (i.toNat*E.size) (E.cells x')=ab E (l.set i.toNat x'):=by
 have:=jJ E (x':=x') 0 (E.cells x') h (by unfold putCells;simp[E.len]) (by rw[E.len];omega)
 simpa using this
theorem JU (h:KU B n c z=some m):m=List.replicate n.toNat z∧0≤n∧n≤c∧c≤maxLen∧c.toNat*B≤140737488355328:=by
 unfold KU at h
 split at h
 ·cases h;exact⟨rfl,by assumption⟩
 ·cases h
theorem mk_one (h:KU B n n z=some m):0≤n∧n.toNat=m.length∧m.length≤maxLen∧n0 m.length (E.cells z)=ab E m∧m.length*B≤140737488355328:=by
 obtain⟨rfl,h1,_,h3,h4⟩:=JU h
 refine⟨h1,by simp,by simp;omega,by rw[Bj];simp,by simpa using h4⟩
theorem VC (h:KU B n c z=some m):0≤n∧0≤c∧n.toNat=m.length∧n0 m.length (E.cells z)=ab E m∧m.length≤c.toNat∧c.toNat≤maxLen∧c.toNat*B≤140737488355328:=by
 obtain⟨rfl,h1,h2,h3,h4⟩:=JU h
 refine⟨h1,by omega,by simp,by rw[Bj];simp,by simp;omega,by omega,h4⟩
theorem yk (h:Cx l a b=some m):0≤a∧0≤b∧a.toNat≤b.toNat∧b.toNat≤l.length∧b.toNat-a.toNat=m.length∧(List.take (m.length*E.size) (List.drop (a.toNat*E.size) (ab E l))=ab E m):=by
 unfold Cx at h
 split at h
 ·rename_i hc
  cases h
  have hl:((l.drop a.toNat).take (b.toNat-a.toNat)).length=b.toNat-a.toNat:=by simp;omega
  refine⟨hc.1,by omega,by omega,by omega,hl.symm,?_⟩
  rw[hl,tK,fm]
 ·cases h
theorem VL (h:Cx l a b=some m):0≤a∧0≤b∧(a.toNat≤b.toNat∧b.toNat≤l.length)∧b.toNat-a.toNat=m.length∧(List.take (m.length*E.size) (List.drop (a.toNat*E.size) (ab E l))=ab E m):=by
 obtain⟨h1,h2,h3,h4,h5,h6⟩:=yk E h
 exact⟨h1,h2,⟨h3,h4⟩,h5,h6⟩
theorem VM (h:Cx l a (l.length:Int)=some m):0≤a∧0≤a∧a.toNat≤l.length∧l.length-a.toNat=m.length∧(List.take (m.length*E.size) (List.drop (a.toNat*E.size) (ab E l))=ab E m):=by
 obtain⟨h1,h2,h3,h4,h5,h6⟩:=yk E h
 simp only[Int.toNat_natCast]at h3 h5
 exact⟨h1,h1,h3,h5,h6⟩
theorem Cy (h:Cx l 0 b=some m):0≤b∧0≤b∧m.length≤l.length∧b.toNat=m.length∧(List.take (m.length*E.size) (ab E l)=ab E m):=by
 obtain⟨h1,h2,h3,h4,h5,h6⟩:=yk E h
 have h5':b.toNat=m.length:=by simpa using h5
 refine⟨h2,h2,by omega,h5',by simpa using h6⟩
theorem xD {n:List α} (h:gC B l m=some n):n=l++m∧n.length≤maxLen∧n.length*B≤140737488355328:=by
 unfold gC at h
 split at h
 ·rename_i hc
  cases h
  exact⟨rfl,by rw[List.length_append];exact hc.1,by rw[List.length_append];exact hc.2⟩
 ·cases h
theorem ey {n:List α} (h:gC B l [x]=some n):l.length+1=n.length∧ab E l++E.cells x=ab E n∧n.length≤maxLen∧n.length*B≤140737488355328:=by
 obtain⟨rfl,h1,h2⟩:=xD h
 exact⟨by simp,by rw[fP];simp[ab],h1,h2⟩
theorem qh {n:List α} (h:gC B [] l=some n):n=l∧l.length≤maxLen∧l.length*B≤140737488355328:=by
 obtain⟨rfl,h1,h2⟩:=xD h
 exact⟨rfl,h1,h2⟩
theorem Tt {n:List α} (h:gC B l m=some n):l.length+m.length=n.length∧ab E l++ab E m=ab E n∧n.length≤maxLen∧n.length*B≤140737488355328:=by
 obtain⟨rfl,h1,h2⟩:=xD h
 exact⟨by simp,by rw[fP],h1,h2⟩
end
theorem qy {k:IntKind} {x y z:Int} (h:xG k x y=some z):¬y=0∧k.wrap (x.tdiv y)=z:=by
 unfold xG at h
 split at h
 ·cases h
 ·cases h;exact⟨by assumption,rfl⟩
theorem qP {k:IntKind} {x y z:Int} (h:uA k x y=some z):¬y=0∧x.tmod y=z:=by
 unfold uA at h
 split at h
 ·cases h
 ·cases h;exact⟨by assumption,rfl⟩
theorem Ae {k:IntKind} {x y z:Int} (h:DH k x y=some z):¬y<0∧k.wrap (x*2 ^ (min y.toNat k.bits))=z:=by
 unfold DH at h
 split at h
 ·cases h
 ·cases h;exact⟨by assumption,rfl⟩
theorem oT {k:IntKind} {x y z:Int} (h:uC k x y=some z):¬y<0∧x.fdiv (2 ^ (min y.toNat k.bits))=z:=by
 unfold uC at h
 split at h
 ·cases h
 ·cases h;exact⟨by assumption,rfl⟩
theorem Nc (op:BinOp) (k:IntKind) (x y:Int):AB op k x y=mv op k x y:=Eq.trans rfl rfl
theorem Ob {s:ByteArray} {i x:Int} (h:P.T8 s i=some x):0≤i∧0≤i∧s[i.toNat]? = some (UInt8.ofNat x.toNat)∧((UInt8.ofNat x.toNat).toNat:Int)=x:=by
 unfold P.T8 at h
 split at h
 ·rename_i hi
  rw[Option.map_eq_some_iff]at h
  obtain⟨b,h1,h2⟩:=h
  subst h2
  have:UInt8.ofNat (b.toNat:Int).toNat=b:=by simp
  exact⟨hi,hi,by rw[h1,this],by rw[this]⟩
 ·cases h
theorem oW.emp {P:Program} {f:FuncId} {rk:RK} {out:Option Row} (h1:oW P f none [.sl true true 0 []] rk out) (h2:oW P f none [.sl true false 0 []] rk out):oW P f none [.sl false false 0 []] rk out:=by
 intro w M vs hM ha
 have hd:=ha.2 0 _ rfl
 generalize hu:vs.getD 0 undef=u at hd
 cases hd with
 | sl A c nl tight n xs us k1 k2 k3 k4 k5 k6 k7 k8 =>
  cases A with
  | none =>
   refine h1 w M vs hM ⟨ha.1,fun j d hj =>?_,ha.tab⟩
   cases j with
   | zero=>cases hj;rw[hu];exact .sl none c true true 0 [] us k1 k2 (fun _=>⟨fun _=>⟨rfl,(k4 rfl).2⟩,fun h=>by cases h⟩) k4 (fun _=>(k4 rfl).2) k6 k7 k8
   | succ j=>simp at hj
  | some A =>
   refine h2 w M vs hM ⟨ha.1,fun j d hj =>?_,ha.tab⟩
   cases j with
   | zero=>cases hj;rw[hu];exact .sl (some A) c true false 0 [] us k1 k2 (fun _=>⟨(fun h=>by cases h),fun _ h=>by cases h⟩) k4 (fun h=>by cases h) k6 k7 k8
   | succ j=>simp at hj
theorem bM.UP {P:Program} {T:Nat→Option Ty} {Γ:Env} (hT:kV P T) (hΓ:bR P Γ) (hm:P.follows .mixedOrders=true) {α β:Type} {E:jC α} {F:List α→Option β} {R:β→RK} {mode:Mode} {f:FuncId} {fn:Func} (hf:P.funcs[f]? = some fn) (hok:(match fn.body with|some c=>codeOk c|none=>true)=true)
  (hc:(fn.name == "runtime.NumGoroutine")=false∧fn.body.isNone=false) (hn:1≤fn.ntmps)
  (h0:∀r,F []=some r→aP mode T Γ FU fn none [.sl true true 0 []]=some (R r,none))
  (h1:∀r,F []=some r→aP mode T Γ FU fn none [.sl true false 0 []]=some (R r,none))
  (h2:∀l r,0<l.length→F l=some r→aP mode T Γ FU fn none [.sl false false l.length (ab E l)]=some (R r,none)):bM P f (eN (dR (iI E)) F R) where
 calls lent YC rk out hg:=by
  obtain⟨rfl,rfl,l,r,rfl,hr,rfl⟩:=pF hg
  cases l with
  | nil=>exact oW.emp (kd hT hΓ hm hf hok hn rfl (h0 r hr)) (kd hT hΓ hm hf hok hn rfl (h1 r hr))
  | cons x l=>exact kd hT hΓ hm hf hok hn rfl (h2 (x::l) r (by simp) hr)
 callable:=⟨fn,hf,hc⟩
theorem Yk:type_of% (ai @F0<|ai @AE<|ai @FE<|ai @Kn<|ai @Km<|ai @FC<|ai @Cs<|ai @FD<|ai @bq<|ai @bh<|ai @rQ<|ai @bF<|ai @uZ<|ai @zj<|ai @Cv<|ai @FB<|ai @FM<|ai @CH<|ai @Kk<|ai @Fz<|ai @Cp<|ai @FN<|ai @CI<|ai @CJ<|ai @zw<|ai @Kl<|ai @FA<|ai @Cq<|ai @FO<|ai @CL<|ai @CM<|ai @zx<|ai @KA<|ai @KB<|ai @Od<|ai @Oe<|ai @Cb<|ai @y6<|ai @Cc<|ai @y7<|ai @Ij<|ai @Iq<|ai @Ii<|ai @Ip<|ai @AX<|ai @A0<|ai @Ef<|ai @En<|ai @Ik<|ai @Ir<|ai @Ig<|@Im):=⟨@F0,@AE,@FE,@Kn,@Km,@FC,@Cs,@FD,@bq,@bh,@rQ,@bF,@uZ,@zj,@Cv,@FB,@FM,@CH,@Kk,@Fz,@Cp,@FN,@CI,@CJ,@zw,@Kl,@FA,@Cq,@FO,@CL,@CM,@zx,@KA,@KB,@Od,@Oe,@Cb,@y6,@Cc,@y7,@Ij,@Iq,@Ii,@Ip,@AX,@A0,@Ef,@En,@Ik,@Ir,@Ig,@Im⟩
theorem Yl:type_of% (ai @El<|ai @Eu<|ai @wb<|ai @we<|ai @uF<|ai @uJ<|ai @Eh<|ai @Ep<|ai @uG<|ai @uK<|ai @Ei<|ai @Er<|ai @Ej<|ai @Es<|ai @Eg<|ai @Eo<|ai @sB<|ai @sC<|ai @uH<|ai @uL<|ai @Ee<|ai @Em<|ai @Nx<|ai @Ny<|ai @yD<|ai @yH<|ai @yE<|ai @yI<|ai @Ie<|ai @Il<|ai @yC<|ai @yG<|ai @JZ<|ai @J8<|ai @DW<|ai @yt<|ai @Ed<|ai @IC<|ai @A7<|ai @A6<|ai @BJ<|ai @BI<|ai @dw<|ai @yS<|ai @du<|ai @qQ<|ai @OM<|ai @Hy<|ai @DP<|ai @DO<|ai @E6<|@EM):=⟨@El,@Eu,@wb,@we,@uF,@uJ,@Eh,@Ep,@uG,@uK,@Ei,@Er,@Ej,@Es,@Eg,@Eo,@sB,@sC,@uH,@uL,@Ee,@Em,@Nx,@Ny,@yD,@yH,@yE,@yI,@Ie,@Il,@yC,@yG,@JZ,@J8,@DW,@yt,@Ed,@IC,@A7,@A6,@BJ,@BI,@dw,@yS,@du,@qQ,@OM,@Hy,@DP,@DO,@E6,@EM⟩
theorem Ym:type_of% (ai @EN<|ai @zo<|ai @CF<|ai @CE<|ai @zu<|ai @tC<|ai @rT<|ai @zq<|ai @rU<|ai @zr<|ai @rV<|ai @zn<|ai @FJ<|ai @va<|ai @vb<|ai @zp<|ai @pO<|ai @zt<|ai @CD<|ai @u9<|ai @xd<|ai @NY<|ai @JY<|ai @Fv<|ai @Fu<|ai @EY<|ai @M4<|ai @HA<|ai @M8<|ai @Qz<|ai @M7<|ai @Qw<|ai @M0<|ai @M9<|ai @Qv<|ai @zX<|ai @Na<|ai @M3<|ai @DQ<|ai @Ax<|ai @M6<|ai @DR<|ai @D5<|ai @AR<|ai @D7<|ai @HP<|ai @AO<|ai @yA<|ai @AQ<|ai @D4<|ai @AN<|@H0):=⟨@EN,@zo,@CF,@CE,@zu,@tC,@rT,@zq,@rU,@zr,@rV,@zn,@FJ,@va,@vb,@zp,@pO,@zt,@CD,@u9,@xd,@NY,@JY,@Fv,@Fu,@EY,@M4,@HA,@M8,@Qz,@M7,@Qw,@M0,@M9,@Qv,@zX,@Na,@M3,@DQ,@Ax,@M6,@DR,@D5,@AR,@D7,@HP,@AO,@yA,@AQ,@D4,@AN,@H0⟩
theorem Yn:type_of% (ai @H6<|ai @HW<|ai @D9<|ai @HZ<|ai @Ns<|ai @HS<|ai @Np<|ai @No<|ai @HU<|ai @HY<|ai @QW<|ai @Nw<|ai @QX<|ai @Uv<|ai @QU<|ai @QV<|ai @Ic<|ai @EK<|ai @NG<|ai @Nh<|ai @D3<|ai @DY<|ai @AL<|ai @ES<|ai @Bx<|ai @IG<|ai @NH<|ai @IH<|ai @Ea<|ai @AS<|ai @HD<|ai @Kh<|ai @Fy<|ai @Kg<|ai @Fw<|ai @Ke<|ai @Fx<|ai @Bk<|ai @EC<|ai @AM<|ai @xM<|ai @Bl<|ai @Bm<|ai @Rc<|ai @NA<|ai @Ra<|ai @Iw<|ai @Cl<|ai @Cm<|ai @Nc<|ai @wx<|@aN):=⟨@H6,@HW,@D9,@HZ,@Ns,@HS,@Np,@No,@HU,@HY,@QW,@Nw,@QX,@Uv,@QU,@QV,@Ic,@EK,@NG,@Nh,@D3,@DY,@AL,@ES,@Bx,@IG,@NH,@IH,@Ea,@AS,@HD,@Kh,@Fy,@Kg,@Fw,@Ke,@Fx,@Bk,@EC,@AM,@xM,@Bl,@Bm,@Rc,@NA,@Ra,@Iw,@Cl,@Cm,@Nc,@wx,@aN⟩
theorem Yt:type_of% (And.intro (@KI)<|@KK):=⟨@KI,@KK⟩
theorem Ys:type_of% (ai @true_and<|ai @and_true<|ai @Bool.false_eq_true<|ai @List.map_cons.{0,0}<|ai @List.map_nil.{0,0}<|ai @List.drop_succ_cons.{0}<|ai @List.drop_zero.{0}<|ai @List.take_succ_cons.{0}<|ai @List.take_zero.{0}<|ai @List.length_cons.{0}<|ai @List.length_nil.{0}<|ai @List.contains_nil.{0}<|ai @List.nil_append.{0}<|ai @List.cons_append.{0}<|ai @List.append_nil.{0}<|ai @List.getElem?_cons_zero.{0}<|ai @List.getElem?_cons_succ.{0}<|ai @decide_true<|ai @decide_false<|ai @beq_self_eq_true.{0}<|ai @List.isEmpty_nil.{0}<|ai @List.isEmpty_cons.{0}<|ai @Option.map_none.{0,0}<|ai @Option.map_some.{0,0}<|ai @List.all_cons.{0}<|ai @List.all_nil.{0}<|ai @Option.isSome_some.{0}<|ai @Bool.and_true<|ai @Bool.true_and<|ai @Bool.false_and<|ai @Bool.and_self<|ai @Bool.not_true<|ai @Bool.not_false<|ai @and_self<|ai @Nat.zero_add<|ai @Nat.add_zero<|ai @Nat.zero_mul<|ai @Nat.sub_zero<|ai @Nat.zero_le<|ai @Nat.le_refl<|ai @Option.some.injEq.{0}<|ai @Nat.le_zero_eq<|ai @Nat.one_ne_zero<|ai @Bool.or_self<|ai @Bool.or_true<|ai @Bool.true_or<|ai @Bool.or_false<|ai @Bool.false_or<|@List.length_set.{0}):=⟨@true_and,@and_true,@Bool.false_eq_true,@List.map_cons.{0,0},@List.map_nil.{0,0},@List.drop_succ_cons.{0},@List.drop_zero.{0},@List.take_succ_cons.{0},@List.take_zero.{0},@List.length_cons.{0},@List.length_nil.{0},@List.contains_nil.{0},@List.nil_append.{0},@List.cons_append.{0},@List.append_nil.{0},@List.getElem?_cons_zero.{0},@List.getElem?_cons_succ.{0},@decide_true,@decide_false,@beq_self_eq_true.{0},@List.isEmpty_nil.{0},@List.isEmpty_cons.{0},@Option.map_none.{0,0},@Option.map_some.{0,0},@List.all_cons.{0},@List.all_nil.{0},@Option.isSome_some.{0},@Bool.and_true,@Bool.true_and,@Bool.false_and,@Bool.and_self,@Bool.not_true,@Bool.not_false,@and_self,@Nat.zero_add,@Nat.add_zero,@Nat.zero_mul,@Nat.sub_zero,@Nat.zero_le,@Nat.le_refl,@Option.some.injEq.{0},@Nat.le_zero_eq,@Nat.one_ne_zero,@Bool.or_self,@Bool.or_true,@Bool.true_or,@Bool.or_false,@Bool.false_or,@List.length_set.{0}⟩
theorem Yo:type_of% (ai @Cu<|ai @Ct<|ai @Ut<|ai @DS<|ai @Ay<|ai @MX<|ai @Hs<|ai @MY<|ai @Qp<|ai @MV<|ai @MW<|ai @H3<|ai @NF<|ai @E5<|ai @Je<|ai @BQ<|@Jf):=⟨@Cu,@Ct,@Ut,@DS,@Ay,@MX,@Hs,@MY,@Qp,@MV,@MW,@H3,@NF,@E5,@Je,@BQ,@Jf⟩
theorem Yw:type_of% (ai @vB.eq_1<|ai @vB.eq_2<|ai @ev.eq_1<|ai @ev.eq_2<|ai @ev.eq_3<|ai @ev.eq_4<|ai @pI.eq_1<|ai @pI.eq_2<|ai @pI.eq_3<|ai @pI.eq_4<|ai @pI.eq_5<|ai @pI.eq_6<|ai @eE.eq_1<|ai @eE.eq_2<|ai @xF.eq_1<|ai @xF.eq_2<|ai @xF.eq_3<|ai @jI.eq_1<|ai @jI.eq_2<|ai @jI.eq_3<|ai @fb.eq_1<|ai @fb.eq_2<|ai @fb.eq_3<|ai @fb.eq_4<|ai @fb.eq_5<|ai @fb.eq_6<|ai @fb.eq_7<|ai @fb.eq_8<|ai @fb.eq_9<|ai @fb.eq_10<|ai @fb.eq_11<|ai @fb.eq_12<|ai @fb.eq_13<|ai @fb.eq_14<|ai @fb.eq_15<|ai @fb.eq_16<|ai @DI.eq_1<|ai @DI.eq_2<|ai @DI.eq_3<|ai @DI.eq_4<|ai @DI.eq_5<|ai @DI.eq_6<|ai @TT.eq_1<|ai @bj.eq_1<|ai @bj.eq_2<|ai @dC.eq_1<|ai @dC.eq_2<|ai @dC.eq_3<|ai @dp.eq_1<|ai @dp.eq_2<|ai @dp.eq_3<|ai @live.eq_1<|ai @l7.eq_1<|ai @l7.eq_2<|ai @Ds.od.eq_1<|ai @Ds.od.eq_2<|ai @Ds.od.eq_3<|ai @cn.eq_1<|ai @cn.eq_2<|ai @cn.eq_3<|ai @cn.eq_4<|ai @cn.eq_5<|ai @cn.eq_6<|ai @fG.eq_1<|ai @fG.eq_2<|ai @fG.eq_3<|ai @fG.eq_4<|ai @fG.eq_5<|ai @fG.eq_6<|ai @nS.eq_1<|ai @nS.eq_2<|ai @wK.eq_1<|ai @wK.eq_2<|ai @wK.eq_3<|ai @wK.eq_4<|ai @alive.eq_1<|ai @alive.eq_2<|ai @alive.eq_3<|ai @nm.eq_1<|ai @nm.eq_2<|ai @il.eq_1<|ai @il.eq_2<|ai @il.eq_3<|ai @il.eq_4<|ai @il.eq_5<|ai @il.eq_6<|ai @cK.eq_1<|ai @cK.eq_2<|ai @oJ.eq_1<|ai @iP.eq_1<|ai @iP.eq_2<|ai @iP.eq_3<|ai @kx.eq_1<|ai @kx.eq_2<|ai @Fb.eq_1<|ai @bE.eq_1<|ai @bE.eq_2<|ai @bE.eq_3<|ai @bE.eq_4<|ai @fB.eq_1<|ai @fB.eq_2<|ai @fB.eq_3<|ai @cF.eq_1<|ai @cF.eq_2<|ai @cF.eq_3<|ai @cF.eq_4<|ai @cF.eq_5<|ai @cF.eq_6<|ai @eC.eq_1<|ai @gI.eq_1<|ai @gI.eq_2<|ai @fieldAt.eq_1<|ai @dB.eq_1<|ai @ov.eq_1<|ai @ig.eq_1<|ai @content.eq_1<|ai @content.eq_2<|ai @content.eq_3<|ai @putCells.eq_1<|ai @P9.eq_1<|ai @P9.eq_2<|ai @P9.eq_3<|ai @P9.eq_4<|ai @Lg.eq_1<|ai @Lg.eq_2<|ai @Lg.eq_3<|ai @Lg.eq_4<|ai @O9.eq_1<|ai @O9.eq_2<|ai @O9.eq_3<|ai @eR.eq_1<|ai @eR.eq_2<|ai @eR.eq_3<|ai @kindOk.eq_1<|ai @kindOk.eq_2<|ai @kindOk.eq_3<|ai @kindOk.eq_4<|ai @jv.eq_1<|ai @jv.eq_2<|ai @jv.eq_3<|ai @jv.eq_4<|ai @ml.eq_1<|ai @ml.eq_2<|ai @ml.eq_3<|ai @ml.eq_4<|ai @ml.eq_5<|ai @ml.eq_6<|ai @ml.eq_7<|ai @ml.eq_8<|ai @rl.eq_1<|ai @rl.eq_2<|ai @rl.eq_3<|ai @aU.eq_1<|ai @aU.eq_2<|ai @aU.eq_3<|ai @aU.eq_4<|ai @aU.eq_5<|ai @aU.eq_6<|ai @aU.eq_7<|ai @pG.eq_1<|ai @pG.eq_2<|ai @ss.eq_1<|ai @ss.eq_2<|ai @ss.eq_3<|@ss.eq_4):=⟨@vB.eq_1,@vB.eq_2,@ev.eq_1,@ev.eq_2,@ev.eq_3,@ev.eq_4,@pI.eq_1,@pI.eq_2,@pI.eq_3,@pI.eq_4,@pI.eq_5,@pI.eq_6,@eE.eq_1,@eE.eq_2,@xF.eq_1,@xF.eq_2,@xF.eq_3,@jI.eq_1,@jI.eq_2,@jI.eq_3,@fb.eq_1,@fb.eq_2,@fb.eq_3,@fb.eq_4,@fb.eq_5,@fb.eq_6,@fb.eq_7,@fb.eq_8,@fb.eq_9,@fb.eq_10,@fb.eq_11,@fb.eq_12,@fb.eq_13,@fb.eq_14,@fb.eq_15,@fb.eq_16,@DI.eq_1,@DI.eq_2,@DI.eq_3,@DI.eq_4,@DI.eq_5,@DI.eq_6,@TT.eq_1,@bj.eq_1,@bj.eq_2,@dC.eq_1,@dC.eq_2,@dC.eq_3,@dp.eq_1,@dp.eq_2,@dp.eq_3,@live.eq_1,@l7.eq_1,@l7.eq_2,@Ds.od.eq_1,@Ds.od.eq_2,@Ds.od.eq_3,@cn.eq_1,@cn.eq_2,@cn.eq_3,@cn.eq_4,@cn.eq_5,@cn.eq_6,@fG.eq_1,@fG.eq_2,@fG.eq_3,@fG.eq_4,@fG.eq_5,@fG.eq_6,@nS.eq_1,@nS.eq_2,@wK.eq_1,@wK.eq_2,@wK.eq_3,@wK.eq_4,@alive.eq_1,@alive.eq_2,@alive.eq_3,@nm.eq_1,@nm.eq_2,@il.eq_1,@il.eq_2,@il.eq_3,@il.eq_4,@il.eq_5,@il.eq_6,@cK.eq_1,@cK.eq_2,@oJ.eq_1,@iP.eq_1,@iP.eq_2,@iP.eq_3,@kx.eq_1,@kx.eq_2,@Fb.eq_1,@bE.eq_1,@bE.eq_2,@bE.eq_3,@bE.eq_4,@fB.eq_1,@fB.eq_2,@fB.eq_3,@cF.eq_1,@cF.eq_2,@cF.eq_3,@cF.eq_4,@cF.eq_5,@cF.eq_6,@eC.eq_1,@gI.eq_1,@gI.eq_2,@fieldAt.eq_1,@dB.eq_1,@ov.eq_1,@ig.eq_1,@content.eq_1,@content.eq_2,@content.eq_3,@putCells.eq_1,@P9.eq_1,@P9.eq_2,@P9.eq_3,@P9.eq_4,@Lg.eq_1,@Lg.eq_2,@Lg.eq_3,@Lg.eq_4,@O9.eq_1,@O9.eq_2,@O9.eq_3,@eR.eq_1,@eR.eq_2,@eR.eq_3,@kindOk.eq_1,@kindOk.eq_2,@kindOk.eq_3,@kindOk.eq_4,@jv.eq_1,@jv.eq_2,@jv.eq_3,@jv.eq_4,@ml.eq_1,@ml.eq_2,@ml.eq_3,@ml.eq_4,@ml.eq_5,@ml.eq_6,@ml.eq_7,@ml.eq_8,@rl.eq_1,@rl.eq_2,@rl.eq_3,@aU.eq_1,@aU.eq_2,@aU.eq_3,@aU.eq_4,@aU.eq_5,@aU.eq_6,@aU.eq_7,@pG.eq_1,@pG.eq_2,@ss.eq_1,@ss.eq_2,@ss.eq_3,@ss.eq_4⟩
theorem Xv:type_of% (ai @D1<|ai @DZ<|ai @D0<|ai @NC<|ai @Jc<|ai @I2<|ai @I7<|ai @E3<|ai @IW<|ai @IX<|ai @BH<|ai @IZ<|ai @IY<|ai @ET<|ai @Jq<|ai @Jt<|ai @Nf<|ai @AF<|ai @AG<|ai @D2<|ai @ND<|ai @Jd<|ai @I3<|ai @E4<|ai @I8<|ai @BN<|ai @Ja<|ai @I9<|ai @EW<|ai @Ng<|@AH):=⟨@D1,@DZ,@D0,@NC,@Jc,@I2,@I7,@E3,@IW,@IX,@BH,@IZ,@IY,@ET,@Jq,@Jt,@Nf,@AF,@AG,@D2,@ND,@Jd,@I3,@E4,@I8,@BN,@Ja,@I9,@EW,@Ng,@AH⟩
section
variable {T:Nat→Option Ty} {Γ:Env} {N F e:Nat} {Q Q':Kt} {t:Nat→D} {h:Nat→Option Row}
theorem gB (hm:∀x t h e,Q x t h e→Q' x t h e):∀(ws:List W) (x:Ex) (t:Nat→D) (h:Nat→Option Row) (e:Nat),cU T Γ N F ws Q x t h e→cU T Γ N F ws Q' x t h e
 | [],x,t,h,e,hk=>hm _ _ _ _ hk
 | .code c::ws,x,t,h,e,hk=>by
  unfold cU at hk ⊢
  cases x with
  | normal=>exact P7 c t h e _ _ hk (fun x t h e hx=>gB hm ws x t h e hx)
  | exit n=>exact gB hm ws _ t h e hk
  | ret=>exact gB hm ws _ t h e hk
 | .blk id::ws,x,t,h,e,hk=>by
  unfold cU QC at hk ⊢
  cases x with
  | normal=>exact gB hm ws _ t h e hk
  | exit n =>
   simp only at hk ⊢
   split at hk
   ·rename_i hn;rw[if_pos hn];exact gB hm ws _ t h e hk
   ·rename_i hn;rw[if_neg hn];exact gB hm ws _ t h e hk
  | ret=>exact gB hm ws _ t h e hk
theorem n9:∀(ws:List W) (k:Nat),cU T Γ N F ws Q=cU T Γ N F (ws.take k) (cU T Γ N F (ws.drop k) Q)
 | ws,0=>by simp[cU]
 | [],k+1=>by simp[cU]
 | .code c::ws,k+1=>by
  rw[List.take_succ_cons,List.drop_succ_cons]
  funext x t h e
  unfold cU
  rw[n9 ws k]
 | .blk id::ws,k+1=>by
  rw[List.take_succ_cons,List.drop_succ_cons]
  funext x t h e
  unfold cU
  rw[n9 ws k]
variable {σ:Type} {ops l:List Oper} {ws:List W} {dst:Option Nat} {fs:List kh} {d:D} {g:Nat}
theorem rv {J:σ→(Nat→D)→(Nat→Option Row)→Nat→Prop} {P:σ→Prop} {R:Kt} (hrest:∀s t h e,J s t h e→P s→R .normal t h e):∀x t h e,CK J P R x t h e→R x t h e:=by
 intro x t h e hx
 cases x with
 | normal=>obtain⟨s,h1,h2⟩:=hx;exact hrest s t h e h2 h1
 | exit n=>exact hx
 | ret=>exact hx
theorem uj (hm:∀x t h e,Q x t h e→Q' x t h e) (hk:kN T Γ N F ops l ws Q t h e):kN T Γ N F ops l ws Q' t h e:=um (fun t h hh=>gB hm ws _ _ _ _ hh) _ _ _ hk
theorem uk (hm:∀x t h e,Q x t h e→Q' x t h e) (hk:kO T Γ N F ops l ws Q t h e fs):kO T Γ N F ops l ws Q' t h e fs:=ui (fun t h fs hh=>⟨hh.1,gB hm ws _ _ _ _ hh.2⟩) _ _ _ _ hk
theorem rh (k:Nat):kN T Γ N F ops l ws Q t h e=kN T Γ N F ops l (ws.take k) (cU T Γ N F (ws.drop k) Q) t h e:=by unfold kN;rw[n9 ws k]
theorem ri (k:Nat):kO T Γ N F ops l ws Q t h e fs=kO T Γ N F ops l (ws.take k) (cU T Γ N F (ws.drop k) Q) t h e fs:=by unfold kO;rw[n9 ws k]
theorem Ek (k:Nat) {o:Oper} : ot T Γ N F o ops l ws Q t h e=ot T Γ N F o ops l (ws.take k) (cU T Γ N F (ws.drop k) Q) t h e:=by
 unfold ot
 congr 1
 funext t E
 rw[rh k]
theorem Et (k:Nat) {o:Oper} : ou T Γ N F o ops l ws Q t h e fs=ou T Γ N F o ops l (ws.take k) (cU T Γ N F (ws.drop k) Q) t h e fs:=by
 unfold ou
 congr 1
 funext t E
 rw[ri k]
theorem Ih {o:Oper} (hm:∀x t h e,Q x t h e→Q' x t h e) (hk:ot T Γ N F o ops l ws Q t h e):ot T Γ N F o ops l ws Q' t h e:=xj hk fun _ _ hh=>uj hm hh
theorem Io {o:Oper} (hm:∀x t h e,Q x t h e→Q' x t h e) (hk:ou T Γ N F o ops l ws Q t h e fs):ou T Γ N F o ops l ws Q' t h e fs:=xj hk fun _ _ hh=>uk hm hh
variable (k:Nat) (J:σ→(Nat→D)→(Nat→Option Row)→Nat→Prop) (P:σ→Prop)
theorem mm {x y:Code} (hrest:∀s t h e,J s t h e→P s→cU T Γ N F (ws.drop k) Q .normal t h e) (hc:Hl T Γ N F d g x y (ws.take k) (CK J P (cU T Γ N F (ws.drop k) Q)) t h e):Hl T Γ N F d g x y ws Q t h e:=by
 unfold Hl at hc ⊢
 have e1:∀c:Code,cU T Γ N F (.code c::ws) Q=cU T Γ N F (.code c::ws.take k) (cU T Γ N F (ws.drop k) Q):=fun c=>n9 (.code c::ws) (k+1)
 rw[e1,e1]
 exact xh hc (fun _ hh=>gB (rv hrest) _ _ _ _ _ hh) (fun _ hh=>gB (rv hrest) _ _ _ _ _ hh)
theorem bW {want:Bool} {o:Oper} (hrest:∀s t h e,J s t h e→P s→cU T Γ N F (ws.drop k) Q .normal t h e) (hc:uD T Γ N F d g want o ops l (ws.take k) (CK J P (cU T Γ N F (ws.drop k) Q)) t h e):uD T Γ N F d g want o ops l ws Q t h e:=by
 unfold uD at hc ⊢
 refine CP hc (fun t hh =>?_) (fun t hh =>?_) (fun t hh =>?_)
 ·cases want
  ·simp only[Bool.false_eq_true,if_false]at hh ⊢;rw[rh k];exact uj (rv hrest) hh
  ·simp only[if_true]at hh ⊢;rw[Ek k];exact Ih (rv hrest) hh
 ·cases want
  ·simp only[Bool.false_eq_true,if_false]at hh ⊢;rw[Ek k];exact Ih (rv hrest) hh
  ·simp only[if_true]at hh ⊢;rw[rh k];exact uj (rv hrest) hh
 ·rw[rh k];exact uj (rv hrest) hh
theorem KJ {want:Bool} {o:Oper} (hrest:∀s t h e,J s t h e→P s→cU T Γ N F (ws.drop k) Q .normal t h e) (hc:uE T Γ N F d g want o ops l (ws.take k) (CK J P (cU T Γ N F (ws.drop k) Q)) t h e fs):uE T Γ N F d g want o ops l ws Q t h e fs:=by
 unfold uE at hc ⊢
 refine CP hc (fun t hh =>?_) (fun t hh =>?_) (fun t hh =>?_)
 ·cases want
  ·simp only[Bool.false_eq_true,if_false]at hh ⊢;rw[ri k];exact uk (rv hrest) hh
  ·simp only[if_true]at hh ⊢;rw[Et k];exact Io (rv hrest) hh
 ·cases want
  ·simp only[Bool.false_eq_true,if_false]at hh ⊢;rw[Et k];exact Io (rv hrest) hh
  ·simp only[if_true]at hh ⊢;rw[ri k];exact uk (rv hrest) hh
 ·rw[ri k];exact uk (rv hrest) hh
end
noncomputable def Qb {α β γ:Type} (ty:Nat) (E:jC γ) (A:mo α) (F:List γ→α→Option (List γ×β)) (R:β→RK):Option (D×Row)→List D→Option (RK×Option Row):=fun lent ds =>
 match lent with
 | some (.buf 0 0 s o n,⟨0,ty',cells,false,true,false⟩)=>open Classical in
  if h:ty'=ty∧s=E.size∧∃p:List D×List γ×List D×α,cells=p.1++(ab E p.2.1++p.2.2.1)∧o=p.1.length∧n=p.2.1.length∧ds=A.ds p.2.2.2 then
   (F (Classical.choose h.2.2).2.1 (Classical.choose h.2.2).2.2.2).map fun r=>(R r.2,some ⟨0,ty,(Classical.choose h.2.2).1++(ab E r.1++(Classical.choose h.2.2).2.2.1),false,true,false⟩)
  else none
 | _=>none
theorem OO {γ:Type} {E:jC γ} {p p' q q':List D} {l l':List γ} (h:p++(ab E l++q)=p'++(ab E l'++q')) (hp:p.length=p'.length) (hl:l.length=l'.length):p=p'∧l=l'∧q=q':=by
 obtain⟨h1,h2⟩:=List.append_inj h hp
 obtain⟨h3,h4⟩:=List.append_inj h2 (by rw[cL,cL,hl])
 exact⟨h1,sL E _ _ h3,h4⟩
theorem B0 {α β γ:Type} (ty:Nat) (E:jC γ) (A:mo α) (F:List γ→α→Option (List γ×β)) (R:β→RK) (pre post:List D) (l:List γ) (a:α) :
  Qb ty E A F R (some (.buf 0 0 E.size pre.length l.length,⟨0,ty,pre++(ab E l++post),false,true,false⟩)) (A.ds a)=(F l a).map fun r=>(R r.2,some ⟨0,ty,pre++(ab E r.1++post),false,true,false⟩):=by
 have h:ty=ty∧E.size=E.size∧∃p:List D×List γ×List D×α,pre++(ab E l++post)=p.1++(ab E p.2.1++p.2.2.1)∧pre.length=p.1.length∧l.length=p.2.1.length∧A.ds a=A.ds p.2.2.2:=⟨rfl,rfl,(pre,l,post,a),rfl,rfl,rfl,rfl⟩
 simp only[Qb]
 rw[dif_pos h]
 obtain⟨h1,h2,h3,h4⟩:=Classical.choose_spec h.2.2
 obtain⟨e1,e2,e3⟩:=OO h1 h2 h3
 rw[← A.inj _ _ h4,← e1,← e2,← e3]
theorem JT {α β γ:Type} {ty:Nat} {E:jC γ} {A:mo α} {F:List γ→α→Option (List γ×β)} {R:β→RK} {lent:Option (D×Row)} {ds:List D} {rk:RK} {out:Option Row} (h:Qb ty E A F R lent ds=some (rk,out)) :
  ∃pre l post a l' r,lent=some (.buf 0 0 E.size pre.length l.length,⟨0,ty,pre++(ab E l++post),false,true,false⟩)∧ds=A.ds a∧F l a=some (l',r)∧rk=R r∧out=some ⟨0,ty,pre++(ab E l'++post),false,true,false⟩:=by
 unfold Qb at h
 split at h
 ·split at h
  ·rename_i he
   obtain⟨rfl,rfl,he⟩:=he
   rw[Option.map_eq_some_iff]at h
   obtain⟨⟨l',r⟩,h1,h2⟩:=h
   simp only[Prod.mk.injEq]at h2
   obtain⟨rfl,rfl⟩:=h2
   obtain⟨g1,g2,g3,g4⟩:=Classical.choose_spec he
   refine⟨_,_,_,_,l',r,?_,g4,h1,rfl,rfl⟩
   rw[← g1,← g2,← g3]
  ·cases h
 ·cases h
theorem bM.NQ {P:Program} {T:Nat→Option Ty} {Γ:Env} (hT:kV P T) (hΓ:bR P Γ) (hm:P.follows .mixedOrders=true) {α β γ:Type} {ty:Nat} {E:jC γ} {A:mo α} {F:List γ→α→Option (List γ×β)} {R:β→RK} {mode:Mode} {f:FuncId} {fn:Func} (hf:P.funcs[f]? = some fn) (hok:(match fn.body with|some c=>codeOk c|none=>true)=true)
  (hc:(fn.name == "runtime.NumGoroutine")=false∧fn.body.isNone=false) (hn:∀a,(A.ds a).length+1≤fn.ntmps)
  (h:∀pre post l a l' r,F l a=some (l',r)→aP mode T Γ FU fn (some (.buf 0 0 E.size pre.length l.length,⟨0,ty,pre++(ab E l++post),false,true,false⟩)) (A.ds a)=some (R r,some ⟨0,ty,pre++(ab E l'++post),false,true,false⟩)):bM P f (Qb ty E A F R) where
 calls lent YC rk out hg:=by
  obtain⟨pre,l,post,a,l',r,rfl,rfl,hr,rfl,rfl⟩:=JT hg
  exact kd hT hΓ hm hf hok (hn a) rfl (h pre post l a l' r hr)
 callable:=⟨fn,hf,hc⟩
noncomputable def UT {α γ:Type} (ty:Nat) (E:jC γ) (A:mo α) (F:List γ→α→Option (List γ)):Option (D×Row)→List D→Option (RK×Option Row):=fun lent ds =>
 match lent with
 | some (.buf 0 0 s o n,⟨0,ty',cells,false,true,false⟩)=>open Classical in
  if h:ty'=ty∧s=E.size∧∃p:List D×List γ×List D×α,cells=p.1++(ab E p.2.1++p.2.2.1)∧o=p.1.length∧n=p.2.1.length∧ds=A.ds p.2.2.2 then
   (F (Classical.choose h.2.2).2.1 (Classical.choose h.2.2).2.2.2).map fun r=>(.fresh ty E.size r.length (ab E r),none)
  else none
 | _=>none
theorem RJ {α γ:Type} (ty:Nat) (E:jC γ) (A:mo α) (F:List γ→α→Option (List γ)) (pre post:List D) (l:List γ) (a:α) :
  UT ty E A F (some (.buf 0 0 E.size pre.length l.length,⟨0,ty,pre++(ab E l++post),false,true,false⟩)) (A.ds a)=(F l a).map fun r=>(.fresh ty E.size r.length (ab E r),none):=by
 have h:ty=ty∧E.size=E.size∧∃p:List D×List γ×List D×α,pre++(ab E l++post)=p.1++(ab E p.2.1++p.2.2.1)∧pre.length=p.1.length∧l.length=p.2.1.length∧A.ds a=A.ds p.2.2.2:=⟨rfl,rfl,(pre,l,post,a),rfl,rfl,rfl,rfl⟩
 simp only[UT]
 rw[dif_pos h]
 obtain⟨h1,h2,h3,h4⟩:=Classical.choose_spec h.2.2
 obtain⟨e1,e2,e3⟩:=OO h1 h2 h3
 rw[← A.inj _ _ h4,← e2]
theorem JS {α γ:Type} {ty:Nat} {E:jC γ} {A:mo α} {F:List γ→α→Option (List γ)} {lent:Option (D×Row)} {ds:List D} {rk:RK} {out:Option Row} (h:UT ty E A F lent ds=some (rk,out)) :
  ∃pre l post a r,lent=some (.buf 0 0 E.size pre.length l.length,⟨0,ty,pre++(ab E l++post),false,true,false⟩)∧ds=A.ds a∧F l a=some r∧rk=.fresh ty E.size r.length (ab E r)∧out=none:=by
 unfold UT at h
 split at h
 ·split at h
  ·rename_i he
   obtain⟨rfl,rfl,he⟩:=he
   rw[Option.map_eq_some_iff]at h
   obtain⟨r,h1,h2⟩:=h
   simp only[Prod.mk.injEq]at h2
   obtain⟨rfl,rfl⟩:=h2
   obtain⟨g1,g2,g3,g4⟩:=Classical.choose_spec he
   refine⟨(Classical.choose he).1,(Classical.choose he).2.1,(Classical.choose he).2.2.1,(Classical.choose he).2.2.2,r,?_,g4,h1,rfl,rfl⟩
   rw[← g1,← g2,← g3]
  ·cases h
 ·cases h
theorem bM.Wx {P:Program} {T:Nat→Option Ty} {Γ:Env} (hT:kV P T) (hΓ:bR P Γ) (hm:P.follows .mixedOrders=true) {α γ:Type} {ty:Nat} {E:jC γ} {A:mo α} {F:List γ→α→Option (List γ)} {f:FuncId} {fn:Func} (hf:P.funcs[f]? = some fn) (hok:(match fn.body with|some c=>codeOk c|none=>true)=true)
  (hc:(fn.name == "runtime.NumGoroutine")=false∧fn.body.isNone=false) (hn:∀a,(A.ds a).length+1≤fn.ntmps)
  (h:∀pre post l a r,F l a=some r→aP (.fresh ty E.size) T Γ FU fn (some (.buf 0 0 E.size pre.length l.length,⟨0,ty,pre++(ab E l++post),false,true,false⟩)) (A.ds a)=some (.fresh ty E.size r.length (ab E r),none)):bM P f (UT ty E A F) where
 calls lent YC rk out hg:=by
  obtain⟨pre,l,post,a,r,rfl,rfl,hr,rfl,rfl⟩:=JS hg
  exact kd hT hΓ hm hf hok (hn a) rfl (h pre post l a r hr)
 callable:=⟨fn,hf,hc⟩
theorem bM.zero {P:Program} {f:FuncId} {fn:Func} (hf:P.funcs[f]? = some fn) (hc:(fn.name == "runtime.NumGoroutine")=false∧fn.body.isNone=false) {α β:Type} {A:mo α} {F:α→Option β} {R:β→RK} (h0:∀a,F a=none):bM P f (eN A F R) where
 calls lent YC rk out hg:=by
  obtain⟨rfl,rfl,a,r,rfl,hr,rfl⟩:=pF hg
  rw[h0]at hr
  cases hr
 callable:=⟨fn,hf,hc⟩
section
variable {h:Nat→Option Row} {Γ:Env} {g e x v d:Nat} {dst:Option Nat} {fr:List Nat} {YC rest:List D} {d0:D} {T:Nat→Option Ty} {rs:List ResultVar}
def HF (h:Nat→Option Row) (e:Nat) (dst:Option Nat) (x v:Nat) (fr:List Nat):Option (RK×Option Row)→Option dG
 | some (.clean c,some r1)=>some ⟨c,iD h fr++[(x,some { r1 with v:=v })]⟩
 | some (.same s o n,some r1)=>some ⟨.buf x v s o n,iD h fr++[(x,some { r1 with v:=v })]⟩
 | some (.fresh ty s n cells,none) =>
  match dst with
  | some d=>if fr.contains d=false then some ⟨.buf d e s 0 n,iD h fr++[(x,none),(d,some ⟨e,ty,cells,false,true,false⟩)]⟩ else none
  | none=>none
 | _=>none
def QH (Γ:Env) (h:Nat→Option Row) (e:Nat) (dst:Option Nat) (g x v:Nat) (d0:D) (r:Row):Option (List D×List Nat)→Option dG
 | some (YC,fr)=>if fr.contains x=false then HF h e dst x v fr (Γ.sem g (some (d0,r)) YC) else none
 | none=>none
def QG (Γ:Env) (h:Nat→Option Row) (e:Nat) (dst:Option Nat) (g x v:Nat) (d0:D) (rest:List D):Option Row→Option dG
 | some r=>if r.fz=false then QH Γ h e dst g x v d0 { r with v:=0 } (cf h rest) else none
 | none=>none
theorem HG {s o n:Nat} : CV true Γ h e dst g (.buf x v s o n::rest)=QG Γ h e dst g x v (.buf 0 0 s o n) rest (live h x v):=by
 simp only[CV,if_true,rB]
 cases live h x v with
 | none=>rfl
 | some r =>
  simp only[QG]
  cases cf h rest with
  | none=>rfl
  | some p=>rfl
theorem AI {r:Row} : QG Γ h e dst g x v d0 rest (some r)=if r.fz=false then QH Γ h e dst g x v d0 { r with v:=0 } (cf h rest) else none:=Eq.trans rfl rfl
theorem AJ {r:Row} : QH Γ h e dst g x v d0 r (some (YC,fr))=if fr.contains x=false then HF h e dst x v fr (Γ.sem g (some (d0,r)) YC) else none:=Eq.trans rfl rfl
theorem yu {c:D} {v' ty:Nat} {cells:List D} {fz lst:Bool} : HF h e dst x v fr (some (.clean c,some ⟨v',ty,cells,fz,lst,false⟩))=some ⟨c,iD h fr++[(x,some ⟨v,ty,cells,fz,lst,false⟩)]⟩:=Eq.trans rfl rfl
theorem AK {s o n v' ty:Nat} {cells:List D} {fz lst:Bool} : HF h e dst x v fr (some (.same s o n,some ⟨v',ty,cells,fz,lst,false⟩))=some ⟨.buf x v s o n,iD h fr++[(x,some ⟨v,ty,cells,fz,lst,false⟩)]⟩:=Eq.trans rfl rfl
theorem yv {s n ty:Nat} {cells:List D} : HF h e (some d) x v fr (some (.fresh ty s n cells,none))=if fr.contains d=false then some ⟨.buf d e s 0 n,iD h fr++[(x,none),(d,some ⟨e,ty,cells,false,true,false⟩)]⟩ else none:=Eq.trans rfl rfl
theorem yR {ty sz i:Nat} {t:Nat→D} {l:D×Row} : gT (.fresh ty sz) T (some l) [.tmp i] ⟨t,h,e⟩=lk ty sz h (t i):=Eq.trans rfl rfl
def Wm (y v s o:Nat):Option Row→Option Ty→Option (Nat×Nat)→Option dG
 | some _,some φ,some (l,k)=>if φ.size=s∧0<s then some ⟨.buf y v s (o+l*s) (k-l),[]⟩ else none
 | _,_,_=>none
theorem EG {y v s o l k:Nat} {r:Row} {φ:Ty} : Wm y v s o (some r) (some φ) (some (l,k))=if φ.size=s∧0<s then some ⟨.buf y v s (o+l*s) (k-l),[]⟩ else none:=Eq.trans rfl rfl
theorem NB {el b c y v s o n:Nat} {z:List Value} {q:Bool} {lo hi:Option D} : cF T ⟨.slice el,b,c,z,q⟩ h (.buf y v s o n) lo hi none=Wm y v s o (live h y v) (T el) (ss n lo hi):=by
 simp only[cF]
 cases live h y v with
 | none=>rfl
 | some r =>
  simp only
  cases T el with
  | none=>rfl
  | some φ =>
   cases ss n lo hi with
   | none=>rfl
   | some p=>rfl
def Vs (ty:Nat):Option (List D×List Nat)→Option Row→Option (RK×Option Row)
 | some (ds,fr),some r=>if r.v=0∧r.fz=false∧r.ty=ty∧r.mp=false∧fr.contains 0=false then some (.clean (pk ds),some r) else none
 | _,_=>none
theorem ED {ty:Nat} {ds:List D} {r:Row} : Vs ty (some (ds,fr)) (some r)=if r.v=0∧r.fz=false∧r.ty=ty∧r.mp=false∧fr.contains 0=false then some (.clean (pk ds),some r) else none:=Eq.trans rfl rfl
theorem EE {t:Nat→D} {ty v:Nat} {cells:List D} {fz lst:Bool} : gT .clean T (some (d0,⟨v,ty,cells,fz,lst,false⟩)) rs ⟨t,h,e⟩=Vs ty (vI T ⟨t,h,e⟩ rs) (h 0):=by
 simp only[gT,sM,kB,TZ,Vs]
 cases vI T ⟨t,h,e⟩ rs with
 | none=>rfl
 | some p =>
  obtain⟨ds,fr⟩:=p
  cases h 0 with
  | none=>rfl
  | some r =>
   simp only
   by_cases h1:r.v=0∧r.fz=false∧r.ty=ty∧r.mp=false
   ·rw[if_pos h1]
    simp only[Bool.not_eq_true']
    by_cases h2:fr.contains 0=false
    ·rw[if_pos h2,if_pos ⟨h1.1,h1.2.1,h1.2.2.1,h1.2.2.2,h2⟩]
    ·rw[if_neg h2,if_neg (fun hh=>h2 hh.2.2.2.2)]
   ·rw[if_neg h1,if_neg (fun hh=>h1 ⟨hh.1,hh.2.1,hh.2.2.1,hh.2.2.2.1⟩)]
def TJ (ty:Nat):D→Option Row→Option (RK×Option Row)
 | .buf 0 0 s o n,some r=>if r.v=0∧r.fz=false∧r.ty=ty∧r.mp=false then some (.same s o n,some r) else none
 | _,_=>none
theorem Iy {ty s o n:Nat} {r:Row} : TJ ty (.buf 0 0 s o n) (some r)=if r.v=0∧r.fz=false∧r.ty=ty∧r.mp=false then some (.same s o n,some r) else none:=Eq.trans rfl rfl
theorem EF {t:Nat→D} {ty v i:Nat} {cells:List D} {fz lst:Bool} : gT .same T (some (d0,⟨v,ty,cells,fz,lst,false⟩)) [.tmp i] ⟨t,h,e⟩=TJ ty (t i) (h 0):=by
 simp only[gT,z6,kB]
 generalize t i=q
 cases q with
 | buf a b s o n =>
  cases h 0 with
  | none=>rcases a with _|a<;>rcases b with _|b<;>rfl
  | some r =>
   simp only
   by_cases h1:r.v=0∧r.fz=false∧r.ty=ty∧r.mp=false
   ·rcases a with _|a<;>rcases b with _|b<;>simp[TJ,h1]
   ·rcases a with _|a<;>rcases b with _|b<;>simp[TJ,h1]
 | _=>rfl
end
section
variable {α:Type} (E:jC α) {l m u x:List α} {y y':α} {i a b:Int} {pre post:List D}
theorem Ul (h:Cx l a b=some x):ab E (l.take a.toNat)++(ab E x++ab E (l.drop b.toNat))=ab E l:=by
 unfold Cx at h
 split at h
 ·rename_i hc
  cases h
  rw[← fP,← fP]
  congr 1
  have e:l.drop b.toNat=(l.drop a.toNat).drop (b.toNat-a.toNat):=by rw[List.drop_drop];congr 1;omega
  rw[e,List.take_append_drop,List.take_append_drop]
 ·cases h
theorem Um (h:Cx l a b=some x):(ab E (l.take a.toNat)).length=a.toNat*E.size:=by
 unfold Cx at h
 split at h
 ·rw[cL,List.length_take,Nat.min_eq_left (by omega)]
 ·cases h
theorem U9 (h:Cx l a b=some x):x.length=b.toNat-a.toNat:=by
 unfold Cx at h
 split at h
 ·cases h
  simp
  omega
 ·cases h
theorem Uk:ab E (l.take i.toNat)++(ab E u++ab E (l.drop b.toNat))=ab E (l.take i.toNat++(u++l.drop b.toNat)):=by rw[fP,fP]
theorem Rs (h:P.idx l i=some y):(pre++(ab E l++post)).drop (pre.length+i.toNat*E.size)=E.cells y++(ab E (l.drop (i.toNat+1))++post):=by
 rw[← List.drop_drop,List.drop_left,List.drop_append_of_le_length (by rw[cL];have:=uc E h;omega),wJ E h,List.append_assoc]
theorem Rt (h:P.idx l i=some y):pre.length+i.toNat*E.size+E.size≤(pre++(ab E l++post)).length:=by
 have:=uc E h
 rw[List.length_append,List.length_append,cL]
 omega
theorem sV (h:P.idx l i=some y):(0≤i∧i<l.length)∧(pre++(ab E l++post)).drop (pre.length+i.toNat*E.size)=E.cells y++(ab E (l.drop (i.toNat+1))++post)∧pre.length+i.toNat*E.size+E.size≤(pre++(ab E l++post)).length:=⟨sW h,Rs E h,Rt E h⟩
theorem wT (h:P.idx l i=some y):putCells (pre++(ab E l++post)) (pre.length+i.toNat*E.size) (E.cells y')=pre++(ab E (l.set i.toNat y')++post):=by
 have h1:=R6 E (x':=y') h
 have hf:=uc E h
 have hl:=cL E l
 unfold putCells at h1 ⊢
 rw[← h1,E.len]
 have e1:(pre++(ab E l++post)).take (pre.length+i.toNat*E.size)=pre++(ab E l).take (i.toNat*E.size):=by
  rw[List.take_append,List.take_of_length_le (by omega),Nat.add_sub_cancel_left,List.take_append_of_le_length (by omega)]
 have e2:(pre++(ab E l++post)).drop (pre.length+i.toNat*E.size+E.size)=(ab E l).drop (i.toNat*E.size+E.size)++post:=by
  rw[Nat.add_assoc,List.drop_append,List.drop_eq_nil_of_le (by omega),Nat.add_sub_cancel_left,List.nil_append,List.drop_append_of_le_length (by omega)]
 rw[e1,e2]
 simp only[List.append_assoc]
theorem Td (h:Cx l a b=some x) (hu:u.length=x.length):(l.take a.toNat++(u++l.drop b.toNat)).length=l.length:=by
 have hn:=U9 h
 unfold Cx at h
 split at h
 ·simp only[List.length_append,List.length_take,List.length_drop]
  omega
 ·cases h
theorem T9 (h:Cx l 0 b=some x):pre.length+x.length*E.size≤(pre++(ab E l++post)).length∧((pre++(ab E l++post)).drop pre.length).take (x.length*E.size)=ab E x:=by
 obtain⟨h1,h2,h3,h4,h5⟩:=Cy E h
 have:=Nat.mul_le_mul_right E.size h3
 refine⟨by rw[List.length_append,List.length_append,cL];omega,?_⟩
 rw[List.drop_left,List.take_append_of_le_length (by rw[cL];exact this),h5]
end
section
variable {h:Nat→Option Row} {Γ:Env} {e:Nat} {dst:Option Nat}
def Yf:Option (D×List Nat)→Option (List D×List Nat)→Option (List D×List Nat)
 | some (d,fr),some (ds,fr')=>some (d::ds,fr++fr')
 | _,_=>none
theorem HE {d:D} {ds:List D} {fr fr':List Nat} : Yf (some (d,fr)) (some (ds,fr'))=some (d::ds,fr++fr'):=Eq.trans rfl rfl
theorem HR:cN h []=some ([],[]):=Eq.trans rfl rfl
theorem D8 {d:D} {ds:List D} : cN h (d::ds)=Yf (aO h d) (cN h ds):=by
 simp only[cN]
 cases aO h d with
 | none=>rfl
 | some x=>cases cN h ds<;>rfl
theorem Nj {k:IntKind} {n:Int} : aO h (.int k n)=some (.int k n,[]):=Eq.trans rfl rfl
theorem HQ {b:Bool} : aO h (.bool b)=some (.bool b,[]):=Eq.trans rfl rfl
theorem Nn {b:ByteArray} : aO h (.str b)=some (.str b,[]):=Eq.trans rfl rfl
theorem QO {a b:Bool} {n:Nat} {xs:List D} : aO h (.sl a b n xs)=some (.sl false false n xs,[]):=Eq.trans rfl rfl
theorem Ni {xs:List D} : aO h (.agg xs)=some (.agg (xs.map canon),[]):=Eq.trans rfl rfl
theorem QK {f:Nat} : aO h (.fn f)=some (.fn f,[]):=Eq.trans rfl rfl
def Yg (f k:Nat):Option (List D×List Nat)→Option (D×List Nat)
 | some (ys,fr)=>some (.clo f k ys,fr)
 | none=>none
theorem H2 {f k:Nat} {ys:List D} {fr:List Nat} : Yg f k (some (ys,fr))=some (.clo f k ys,fr):=Eq.trans rfl rfl
theorem HV {f k:Nat} {xs:List D} : bT h (.clo f k xs)=Yg f k (cN h xs):=by
 simp only[bT]
 cases cN h xs<;>rfl
theorem HN {g k:Nat} {caps args:List D} : gn Γ h e dst (.clo g k caps) args=if caps.all iG then CV false Γ h e dst g (caps.take k++(args++caps.drop k)) else none:=by
 simp only[gn,CV,Bool.false_eq_true,if_false]
theorem N1 {k:IntKind} {n:Int} : iG (.int k n)=true:=Eq.trans rfl rfl
theorem J7 {b:Bool} : iG (.bool b)=true:=Eq.trans rfl rfl
theorem N4 {b:ByteArray} : iG (.str b)=true:=Eq.trans rfl rfl
theorem RW {a b:Bool} {n:Nat} {xs:List D} : iG (.sl a b n xs)=true:=Eq.trans rfl rfl
theorem N0 {xs:List D} : iG (.agg xs)=true:=Eq.trans rfl rfl
theorem RR {f:Nat} : iG (.fn f)=true:=Eq.trans rfl rfl
end
theorem Ck:pk []=.tup []:=Eq.trans rfl rfl
def Ye (f:Nat):Arg Unit:=⟨fun _ =>.fn f,fun _ _ _=>rfl⟩
def Qn {α:Type} (f k:Nat) (a:mo α):Arg α:=⟨fun x =>.clo f k (a.ds x),fun x y h=>a.inj _ _ (by simpa using h)⟩
theorem Yq:type_of% (ai @HE<|ai @HR<|ai @D8<|ai @Nj<|ai @HQ<|ai @Nn<|ai @QO<|ai @Ni<|ai @QK<|ai @H2<|ai @HV<|ai @HN<|ai @N1<|ai @J7<|ai @N4<|ai @RW<|ai @N0<|ai @RR<|ai @Ck<|ai @wa<|ai @wc<|@zX):=⟨@HE,@HR,@D8,@Nj,@HQ,@Nn,@QO,@Ni,@QK,@H2,@HV,@HN,@N1,@J7,@N4,@RW,@N0,@RR,@Ck,@wa,@wc,@zX⟩
theorem Yp:type_of% (ai @Kj<|ai @List.contains_cons.{0}<|ai @NB<|ai @EG<|ai @yv<|ai @yR<|ai @HG<|ai @AI<|ai @AJ<|ai @yu<|ai @AK<|ai @ED<|ai @EE<|ai @Iy<|@EF):=⟨@Kj,@List.contains_cons.{0},@NB,@EG,@yv,@yR,@HG,@AI,@AJ,@yu,@AK,@ED,@EE,@Iy,@EF⟩
section
variable {T:Nat→Option Ty} {h:Nat→Option Row} {τ:Ty} {q:Nat→Bool}
theorem RD {x v o:Nat} : l3 τ h (.ptr x v o)=nO τ h x v o (live h x v):=Eq.trans rfl rfl
theorem UA {xs:List D} : l3 τ h (.ip xs)=dp τ h (.ip xs):=Eq.trans rfl rfl
theorem Uy {x v o v' ty:Nat} {c:List D} {fz:Bool} : nO τ h x v o (some ⟨v',ty,c,fz,true,false⟩)=dp τ h (.ptr x v o):=by
 simp only[nO,Bool.not_true,Bool.and_false,Bool.false_eq_true,if_false]
theorem Uz {x v o v' ty:Nat} {c:List D} {lst:Bool} : nO τ h x v o (some ⟨v',ty,c,false,lst,false⟩)=dp τ h (.ptr x v o):=by
 simp only[nO,Bool.false_and,Bool.false_eq_true,if_false]
def XZ:Option D→Option dG→Option dG
 | some d,_=>some ⟨d,[]⟩
 | none,E=>E
theorem Jk {d:D} {E:Option dG} : XZ (some d) E=some ⟨d,[]⟩:=Eq.trans rfl rfl
theorem Jj {E:Option dG} : XZ none E=E:=Eq.trans rfl rfl
theorem Ux {x v o v' ty:Nat} {c:List D} : nO τ h x v o (some ⟨v',ty,c,true,false,false⟩)=if o+τ.size≤c.length then XZ (K1 τ.ds.od ((c.drop o).take τ.size)) (dp τ h (.ptr x v o)) else none:=by
 simp only[nO,Bool.not_false,Bool.and_self,if_true]
 cases K1 τ.ds.od ((c.drop o).take τ.size)<;>rfl
theorem Qu {x v s o n:Nat} : K1 true [.ali x v s o n]=some (.box1 x v s o n):=Eq.trans rfl rfl
theorem Qt {x v s o n:Nat} : K1 false [.ali x v s o n]=some (.buf x v s o n):=Eq.trans rfl rfl
theorem Om {p:D} {k:IntKind} {n:Int} : cT τ h p (.int k n)=cK τ h p (.int k n):=Eq.trans rfl rfl
theorem KE {p:D} {b:Bool} : cT τ h p (.bool b)=cK τ h p (.bool b):=Eq.trans rfl rfl
theorem Oo {p:D} {b:ByteArray} : cT τ h p (.str b)=cK τ h p (.str b):=Eq.trans rfl rfl
theorem Sq {p:D} {a b:Bool} {n:Nat} {xs:List D} : cT τ h p (.sl a b n xs)=cK τ h p (.sl a b n xs):=Eq.trans rfl rfl
theorem On {p:D} {x v o:Nat} : cT τ h p (.ptr x v o)=cK τ h p (.ptr x v o):=Eq.trans rfl rfl
theorem Sm {p:D} {xs:List D} : cT τ h p (.ip xs)=cK τ h p (.ip xs):=Eq.trans rfl rfl
theorem Oj {p:D} {x v s o n:Nat} : cT τ h p (.buf x v s o n)=cK τ h p (.buf x v s o n):=Eq.trans rfl rfl
theorem Oh {p:D} {xs:List D} : cT τ h p (.agg xs)=cK τ h p (.agg xs):=Eq.trans rfl rfl
theorem Sl {p:D} {f:Nat} : cT τ h p (.fn f)=cK τ h p (.fn f):=Eq.trans rfl rfl
theorem Ol {p:D} {f k:Nat} {xs:List D} : cT τ h p (.clo f k xs)=cK τ h p (.clo f k xs):=Eq.trans rfl rfl
theorem Oq {p:D}  : cT τ h p (.und)=cK τ h p (.und):=Eq.trans rfl rfl
def WX (τ:Ty) (x o y vy s oy n:Nat):Option Row→Option dG
 | some r=>if τ.size=1∧o=0∧r.cells.length=1∧r.fz=false∧r.lst=false then some ⟨.und,[(x,some ⟨r.v,r.ty,[.ali y vy s oy n],true,false,false⟩)]⟩ else none
 | none=>none
theorem FG {x o y vy s oy n:Nat} {r:Row} : WX τ x o y vy s oy n (some r)=if τ.size=1∧o=0∧r.cells.length=1∧r.fz=false∧r.lst=false then some ⟨.und,[(x,some ⟨r.v,r.ty,[.ali y vy s oy n],true,false,false⟩)]⟩ else none:=Eq.trans rfl rfl
theorem Oi {x v o y vy s oy n:Nat} : cT τ h (.ptr x v o) (.box1 y vy s oy n)=WX τ x o y vy s oy n (live h x v):=by
 simp only[cT]
 cases live h x v<;>rfl
def HB (b:Bool) (T:Nat→Option Ty) (τ:Ty) (h:Nat→Option Row) (ps:List (Nat×D)):Option dG :=
 if b then eC T τ h ps else
  match τ.ds,ps with
  | .struct fs,[(0,.buf x v s o n)]=>if (alive h (.buf x v s o n))∧(fs.all fun f=>(T f.1).isSome)∧fieldAt T fs 0=some (0,1)∧τ.zero.length=1 then some ⟨.box1 x v s o n,[]⟩ else none
  | .struct fs,[(0,.box1 x v s o n)]=>if (alive h (.buf x v s o n))∧(fs.all fun f=>(T f.1).isSome)∧fieldAt T fs 0=some (0,1)∧τ.zero.length=1 then some ⟨.box1 x v s o n,[]⟩ else none
  | _,_=>cE (eC T τ h ps)
theorem Nd {d:Nat} {ps:List (Nat×D)} : nL q T τ h (some d) ps=HB (q d) T τ h ps:=Eq.trans rfl rfl
theorem DU:HB false T τ h []=cE (eC T τ h []):=by
 unfold HB
 rw[if_neg (by simp)]
 cases τ.ds<;>rfl
theorem QD {cs:List D} {hw:List (Nat×Option Row)} : cE (some ⟨.agg cs,hw⟩)=some ⟨.agg (cs.map canon),hw⟩:=Eq.trans rfl rfl
theorem DV {ps:List (Nat×D)} : HB true T τ h ps=eC T τ h ps:=Eq.trans rfl rfl
def QA (T:Nat→Option Ty) (h:Nat→Option Row) (nz x v s o n:Nat):Ds→Option dG
 | .struct fs=>if (alive h (.buf x v s o n))∧(fs.all fun f=>(T f.1).isSome)∧fieldAt T fs 0=some (0,1)∧nz=1 then some ⟨.box1 x v s o n,[]⟩ else none
 | _=>none
theorem QB {nz x v s o n:Nat} {fs:List (Nat×Nat)} : QA T h nz x v s o n (.struct fs)=if (alive h (.buf x v s o n))∧(fs.all fun f=>(T f.1).isSome)∧fieldAt T fs 0=some (0,1)∧nz=1 then some ⟨.box1 x v s o n,[]⟩ else none:=Eq.trans rfl rfl
theorem HC {x v s o n:Nat} : HB false T τ h [(0,.box1 x v s o n)]=QA T h τ.zero.length x v s o n τ.ds:=by
 unfold HB QA eC
 rw[if_neg (by simp)]
 cases τ.ds<;>rfl
theorem AD {x v s o n:Nat} : HB false T τ h [(0,.buf x v s o n)]=QA T h τ.zero.length x v s o n τ.ds:=by
 unfold HB QA eC
 rw[if_neg (by simp)]
 cases τ.ds<;>rfl
def XV:Option (D×List Nat)→Option (D×List Nat)
 | some (d,fr)=>some (.agg [d],fr)
 | none=>none
theorem H8 {d:D} {fr:List Nat} : XV (some (d,fr))=some (.agg [d],fr):=Eq.trans rfl rfl
theorem HT {x v s o n:Nat} : bT h (.box1 x v s o n)=XV (TC x s o n (live h x v)):=by
 simp only[bT,aO,dn]
 cases live h x v with
 | none=>rfl
 | some r=>by_cases hc:o+n*s≤r.cells.length<;>simp[TC,XV,hc,canon]
theorem RM {x v s o n:Nat} : nm (.box1 x v s o n)=[x]:=Eq.trans rfl rfl
theorem DN {x v s o n:Nat} : alive h (.buf x v s o n)=(live h x v).isSome:=Eq.trans rfl rfl
theorem EL {fs:List (Nat×Nat)} {ft off:Nat} : fieldAt T ((ft,off)::fs) 0=(T ft).map fun φ=>(off,φ.size):=by
 simp only[fieldAt,List.getElem?_cons_zero]
 cases T ft<;>rfl
end
theorem Yr:type_of% (ai @RD<|ai @UA<|ai @Uy<|ai @Uz<|ai @Jk<|ai @Jj<|ai @Ux<|ai @Qu<|ai @Qt<|ai @Om<|ai @KE<|ai @Oo<|ai @Sq<|ai @On<|ai @Sm<|ai @Oj<|ai @Oh<|ai @Sl<|ai @Ol<|ai @Oq<|ai @Oi<|ai @FG<|ai @Nd<|ai @DV<|ai @QB<|ai @AD<|ai @DU<|ai @HC<|ai @QD<|ai @H8<|ai @HT<|ai @RM<|ai @DN<|@EL):=⟨@RD,@UA,@Uy,@Uz,@Jk,@Jj,@Ux,@Qu,@Qt,@Om,@KE,@Oo,@Sq,@On,@Sm,@Oj,@Oh,@Sl,@Ol,@Oq,@Oi,@FG,@Nd,@DV,@QB,@AD,@DU,@HC,@QD,@H8,@HT,@RM,@DN,@EL⟩
theorem v:type_of% (ai @Ys<|ai @Yt<|ai @Yk<|ai @Yl<|ai @Ym<|ai @Yn<|ai @Yo<|ai @Yp<|ai @Yq<|ai @Yr<|ai @Xv<|ai @Yw<|ai @Option.toList_some.{0}<|@Option.toList_none.{0}):=⟨@Ys,@Yt,@Yk,@Yl,@Ym,@Yn,@Yo,@Yp,@Yq,@Yr,@Xv,@Yw,@Option.toList_some.{0},@Option.toList_none.{0}⟩
def BY {α:Type} : List (Int×α)→List Int
 | []=>[]
 | (k,_)::m=>k::BY m
def PA {α:Type} (A:Arg α):List (Int×α)→List D
 | []=>[]
 | (_,v)::m=>A.d v::PA A m
section
variable {α:Type} {A:Arg α}
theorem JN:BY ([]:List (Int×α))=[]:=Eq.trans rfl rfl
theorem JR:PA A []=[]:=Eq.trans rfl rfl
theorem JM (n:Int):∀m:List (Int×α),(BY m).contains n=TN m n
 | []=>rfl
 | (k,v)::m=>by
  have:=JM n m
  simp only[BY,List.contains_cons,TN,this]
  congr 1
  exact Bool.beq_comm
theorem map_inj:∀ {m m':List (Int×α)},BY m=BY m'→PA A m=PA A m'→m=m'
 | [],[],_,_=>rfl
 | [],(k,v)::m',h,_=>by simp[BY]at h
 | (k,v)::m,[],h,_=>by simp[BY]at h
 | (k,v)::m,(k',v')::m',h,g=>by
  simp only[BY,List.cons.injEq]at h
  simp only[PA,List.cons.injEq]at g
  rw[h.1,A.inj _ _ g.1,map_inj h.2 g.2]
end
def Yy {α:Type} (A:Arg α):jC (List (Int×α)):=⟨fun m=>[.mpc (BY m) (PA A m)],1,fun _=>rfl,by decide,fun x y h=>by
 simp only[List.cons.injEq,D.mpc.injEq,and_true]at h
 exact map_inj h.1 h.2⟩
theorem Iu {α:Type} (A:Arg α):(Yy A).size=1:=Eq.trans rfl rfl
def Qo {α:Type} (e:jC α):Arg α:=⟨fun x =>.ip (e.cells x),fun x y h=>e.inj _ _ (by simpa using h)⟩
theorem Us {α:Type} (e:jC α) (x:α):(Qo e).d x=.ip (e.cells x):=Eq.trans rfl rfl
section
variable {T:Nat→Option Ty} {h:Nat→Option Row} {Γ:Env} {e:Nat} {dst:Option Nat}
def XH (v:Nat):Option Row→Option (List Int×List D)
 | some r=>if r.v=v∧r.mp=true then (match r.cells with | [.mpc ks vs]=>some (ks,vs)|_=>none) else none
 | none=>none
theorem Jp {x v:Nat} : gK h x v=XH v (h x):=by
 unfold gK XH
 cases h x<;>rfl
theorem Js {v ty:Nat} {ks:List Int} {vs:List D} {fz lst:Bool} : XH v (some ⟨v,ty,[.mpc ks vs],fz,lst,true⟩)=some (ks,vs):=by simp[XH]
def X1 (ks:List Int) (n:Int):Bool:=ks.contains n
theorem NS {α:Type} {m:List (Int×α)} {n:Int} : X1 (BY m) n=TN m n:=JM n m
def Yi (ok:Bool) (z:D) (n:Int):Option (List Int×List D)→Option dG
 | some (ks,vs)=>some ⟨if ok then .tup [rJ z ks vs n,.bool (X1 ks n)] else rJ z ks vs n,[]⟩
 | none=>none
theorem UR {z:D} {n:Int} {ks:List Int} {vs:List D} : Yi true z n (some (ks,vs))=some ⟨.tup [rJ z ks vs n,.bool (X1 ks n)],[]⟩:=Eq.trans rfl rfl
theorem UQ {z:D} {n:Int} {ks:List Int} {vs:List D} : Yi false z n (some (ks,vs))=some ⟨rJ z ks vs n,[]⟩:=Eq.trans rfl rfl
theorem JP {x v:Nat} : mapOf h (.mp x v)=gK h x v:=Eq.trans rfl rfl
theorem E0 {ks:List Int} {vs:List D} : mapOf h (.mpc ks vs)=some (ks,vs):=Eq.trans rfl rfl
def XJ (h:Nat→Option Row) (y:Nat) (n:Int) (d:D) (fr:List Nat) (ks:List Int) (vs:List D):Option Row→Option dG
 | some r=>if r.fz=false∧fr.contains y=false then some ⟨.und,iD h fr++[(y,some ⟨r.v,r.ty,[.mpc (zP ks n) (G6 ks vs n d)],false,true,true⟩)]⟩ else none
 | none=>none
theorem JX {y v ty:Nat} {n:Int} {d:D} {fr:List Nat} {ks:List Int} {vs:List D} {cells:List D} {lst mp:Bool} : XJ h y n d fr ks vs (some ⟨v,ty,cells,false,lst,mp⟩)=if fr.contains y=false then some ⟨.und,iD h fr++[(y,some ⟨v,ty,[.mpc (zP ks n) (G6 ks vs n d)],false,true,true⟩)]⟩ else none:=by
 simp only[XJ,true_and]
def X2 (h:Nat→Option Row) (y:Nat) (n:Int) (d:D) (fr:List Nat):Option (List Int×List D)→Option dG
 | some (ks,vs)=>XJ h y n d fr ks vs (h y)
 | none=>none
theorem JW {y:Nat} {n:Int} {d:D} {fr:List Nat} {ks:List Int} {vs:List D} : X2 h y n d fr (some (ks,vs))=XJ h y n d fr ks vs (h y):=Eq.trans rfl rfl
def Yz (h:Nat→Option Row) (y v:Nat) (n:Int):Option (D×List Nat)→Option dG
 | some (d,fr)=>X2 h y n d fr (gK h y v)
 | none=>none
theorem JV {y v:Nat} {n:Int} {d:D} {fr:List Nat} : Yz h y v n (some (d,fr))=X2 h y n d fr (gK h y v):=Eq.trans rfl rfl
theorem KO {k:IntKind} {n:Int} : vL h (.int k n)=some (.int k n,[]):=Eq.trans rfl rfl
theorem FQ {b:Bool} : vL h (.bool b)=some (.bool b,[]):=Eq.trans rfl rfl
theorem KN {xs:List D} : vL h (.agg xs)=some (.agg (xs.map canon),[]):=Eq.trans rfl rfl
def XF (τ:Ty) (h:Nat→Option Row) (x v y:Nat):Option Row→Option dG
 | some r=>match r.cells with
  | [.alm y' v']=>if r.fz=true∧r.lst=false∧τ.size=1∧τ.ds.od=false then some ⟨.mp y' v',[]⟩ else none
  | _=>none
 | none=>nN τ h x v y (j7 h x v)
theorem UB {τ:Ty} {x v y:Nat} : l3 τ h (.pm x v y)=XF τ h x v y (live h x v):=by
 simp only[l3]
 cases live h x v with
 | none=>rfl
 | some r =>
  obtain⟨v',ty,cells,fz,lst,mp⟩:=r
  rcases cells with _|⟨c,_|⟨c',cs⟩⟩<;>rfl
theorem Jl {τ:Ty} {x v y:Nat} : XF τ h x v y none=nN τ h x v y (j7 h x v):=Eq.trans rfl rfl
def XG (τ:Ty) (h:Nat→Option Row) (x y s n:Nat):Option Row→Option dG
 | some r=>if y=1000000+x∧r.mp=false∧r.lst=true∧r.cells.length=n*s∧τ.size=1 then some ⟨if τ.ds.od then .agg [.sl false false n r.cells] else .sl false false n r.cells,iD h [y]⟩ else none
 | none=>none
theorem RB {τ:Ty} {r:Row} {x v y s n:Nat} : nN τ h x v y (some (r,y,s,n))=XG τ h x y s n (h y):=by
 simp only[nN,XG,PK]
 cases h y with
 | none=>rfl
 | some q=>simp
theorem Jn {ty b:Nat} {ds:Ds} {z:List Value} {q:Bool} {x y s n e':Nat} {cells:List D} {fz:Bool} : XG ⟨ds,1,b,z,q⟩ h x y s n (some ⟨e',ty,cells,fz,true,false⟩)=if y=1000000+x∧cells.length=n*s then some ⟨if ds.od then .agg [.sl false false n cells] else .sl false false n cells,iD h [y]⟩ else none:=by
 simp[XG]
def Vt (T:Nat→Option Ty) (x v k:Nat):Option (Row×Nat×Nat×Nat)→Option (Nat×Nat)→Option dG
 | some _,some (ft,0)=>match T ft with|some φ=>if φ.size=0 then none else some ⟨.pm x v k,[]⟩|none=>none
 | _,_=>none
theorem ER {T:Nat→Option Ty} {x v k ft:Nat} {r:Row×Nat×Nat×Nat} : Vt T x v k (some r) (some (ft,0))=match T ft with|some φ=>if φ.size=0 then none else some ⟨.pm x v k,[]⟩|none=>none:=Eq.trans rfl rfl
theorem Rh {T:Nat→Option Ty} {b c:Nat} {z:List Value} {q:Bool} {fs:List (Nat×Nat)} {x v k i:Nat} : dC T ⟨.struct fs,b,c,z,q⟩ h i (.pm x v k)=Vt T x v k (j7 h x v) fs[i]?:=by
 simp only[dC,Vt]
 cases j7 h x v with
 | none=>rfl
 | some r=>simp only;generalize fs[i]? = z;rcases z with _|⟨ft,_|off⟩<;>first|rfl|(simp;done)|(simp only;cases T ft<;>rfl)
def Og (x y s oy n k : Nat) : Option Row → Option Row → Option dG
  | some r, some q => if oy = 0 ∧ r.cells.length = 1 ∧ r.fz = false ∧ r.lst = false ∧ q.fz = false ∧ q.lst = true ∧ q.cells.length = n * s ∧ x ≠ y ∧ k = 1000000 + x then
          some ⟨.und, [(y, none), (k, some ⟨0, q.ty, q.cells, false, true, false⟩), (x, some ⟨r.v, r.ty, [.ph k s n], false, false, true⟩)]⟩ else none
  | _, _ => none
theorem Sp {ds:Ds} {b:Nat} {z:List Value} {q:Bool} {x v y vy s oy n k:Nat} : cT ⟨ds,1,b,z,q⟩ h (.pm x v k) (.box1 y vy s oy n)=Og x y s oy n k (live h x v) (live h y vy):=by
 simp only[cT,Og,PK,true_and]
 cases live h x v with
 | none=>rfl
 | some r=>cases live h y vy<;>rfl
theorem CB {x y s oy n k v ty e' ty':Nat} {c:D} {cells:List D} : Og x y s oy n k (some ⟨v,ty,[c],false,false,false⟩) (some ⟨e',ty',cells,false,true,false⟩)=if oy=0∧cells.length=n*s∧¬x=y∧k=1000000+x then
  some ⟨.und,[(y,none),(k,some ⟨0,ty',cells,false,true,false⟩),(x,some ⟨v,ty,[.ph k s n],false,false,true⟩)]⟩ else none:=by
 simp[Og]
theorem Jm {v ty y' v':Nat} {b k el:Nat} {z:List Value} {q mp:Bool} {x0 v0 y0:Nat} : XF ⟨.map k el,1,b,z,q⟩ h x0 v0 y0 (some ⟨v,ty,[.alm y' v'],true,false,mp⟩)=some ⟨.mp y' v',[]⟩:=by
 simp[XF,Ds.od]
def Uc (τ:Ty) (x y y' v':Nat) (m:Bool):Option Row→Option dG
 | some r=>if τ.size=1∧y'=y∧r.cells.length=1∧r.fz=false∧r.lst=false∧m then some ⟨.und,[(x,some ⟨r.v,r.ty,[.alm y' v'],true,false,false⟩)]⟩ else none
 | none=>none
theorem Sn {τ:Ty} {x v y y' v':Nat} : cT τ h (.pm x v y) (.mp y' v')=Uc τ x y y' v' (gK h y v').isSome (live h x v):=by
 simp only[cT,Uc]
 cases live h x v<;>rfl
theorem FF {x y v' v ty:Nat} {c:D} {b:Nat} {ds:Ds} {z:List Value} {q mp:Bool} : Uc ⟨ds,1,b,z,q⟩ x y y v' true (some ⟨v,ty,[c],false,false,mp⟩)=some ⟨.und,[(x,some ⟨v,ty,[.alm y v'],true,false,false⟩)]⟩:=by
 simp[Uc]
theorem UW {x v:Nat} : nm (.mp x v)=[x]:=Eq.trans rfl rfl
theorem RN {ks:List Int} {vs:List D} : nm (.mpc ks vs)=[]:=Eq.trans rfl rfl
theorem UX {x v y:Nat} : nm (.pm x v y)=[x,y]:=Eq.trans rfl rfl
def Wj (x:Nat):Option (List Int×List D)→Option (D×List Nat)
 | some (ks,vs)=>some (.mpc ks vs,[x])
 | none=>none
theorem H4 {x:Nat} {ks:List Int} {vs:List D} : Wj x (some (ks,vs))=some (.mpc ks vs,[x]):=Eq.trans rfl rfl
theorem Nq {x v:Nat} : bT h (.mp x v)=Wj x (gK h x v):=by
 simp only[bT,aO,Wj]
 cases gK h x v<;>rfl
theorem HX {ks:List Int} {vs:List D} : bT h (.mpc ks vs)=some (.mpc ks vs,[]):=Eq.trans rfl rfl
theorem QM {x v:Nat} : aO h (.mp x v)=Wj x (gK h x v):=by
 simp only[aO,Wj]
 cases gK h x v<;>rfl
theorem Nk {ks:List Int} {vs:List D} : aO h (.mpc ks vs)=some (.mpc ks vs,[]):=Eq.trans rfl rfl
theorem QL {xs:List D} : aO h (.ip xs)=some (.ip xs,[]):=Eq.trans rfl rfl
theorem Nl {x v o:Nat} : aO h (.ptr x v o)=Wk x o (live h x v):=by
 simp only[aO]
 cases live h x v with
 | none=>rfl
 | some r=>simp only[Wk]
def XT (x y:Nat):Option (List Int×List D)→Option (D×List Nat)
 | some (ks,vs)=>some (.ip [.mpc ks vs],[x,y])
 | none=>none
theorem H5 {x y:Nat} {ks:List Int} {vs:List D} : XT x y (some (ks,vs))=some (.ip [.mpc ks vs],[x,y]):=Eq.trans rfl rfl
def XU (h:Nat→Option Row) (x y:Nat):Option Row→Option (D×List Nat)
 | some r=>match r.cells with
  | [.alm y' v']=>if r.fz=true∧r.lst=false∧y'=y then XT x y (gK h y v') else none
  | _=>none
 | none=>none
theorem H7 {x y v' v ty:Nat} {mp:Bool} : XU h x y (some ⟨v,ty,[.alm y v'],true,false,mp⟩)=XT x y (gK h y v'):=by
 simp[XU]
theorem QN {x v y:Nat} : aO h (.pm x v y)=XU h x y (live h x v):=by
 simp only[aO]
 cases live h x v with
 | none=>rfl
 | some r =>
  obtain⟨v',ty,cells,fz,lst,mp⟩:=r
  rcases cells with _|⟨c,_|⟨c',cs⟩⟩<;>rfl
theorem N3 {x v o:Nat} : iG (.ptr x v o)=true:=Eq.trans rfl rfl
theorem RV {x v y:Nat} : iG (.pm x v y)=true:=Eq.trans rfl rfl
theorem RS {xs:List D} : iG (.ip xs)=true:=Eq.trans rfl rfl
theorem RU {x v:Nat} : iG (.mp x v)=true:=Eq.trans rfl rfl
theorem N2 {ks:List Int} {vs:List D} : iG (.mpc ks vs)=true:=Eq.trans rfl rfl
theorem Rk {v ty:Nat} {cells:List D} {fz mp:Bool} : pB ⟨v,ty,cells,fz,true,mp⟩=⟨v,ty,cells,true,true,mp⟩:=by cases fz<;>rfl
theorem NL {d:Nat} : aV.hint d=none:=Eq.trans rfl rfl
theorem I1 {f:Nat} {l:Bool} {G:Option (D×Row)→List D→Option (RK×Option Row)} {d:Nat} : (Am.ext Γ f l G).hint d=Γ.hint d:=Eq.trans rfl rfl
theorem EV {d i:Nat} : (Am.keep d Γ).hint i=Γ.hint i:=Eq.trans rfl rfl
theorem EU {d y i:Nat} : (Am.uR d y Γ).hint i=if i=d then some y else Γ.hint i:=Eq.trans rfl rfl
theorem I4 {d y i:Nat} : (Am.uR d y Γ).own i=Γ.own i:=Eq.trans rfl rfl
theorem BK {d y i:Nat} : (Am.uR d y Γ).lends i=Γ.lends i:=Eq.trans rfl rfl
theorem I5 {d y i:Nat} {lent:Option (D×Row)} {YC:List D} : (Am.uR d y Γ).sem i lent YC=Γ.sem i lent YC:=Eq.trans rfl rfl
theorem EP {ks:List Int} {vs:List D} : fG (.mpc ks vs)=false:=Eq.trans rfl rfl
theorem D6 {ks:List Int} {vs:List D} : canon (.mpc ks vs)=.mpc ks vs:=Eq.trans rfl rfl
theorem AP {ks:List Int} {vs:List D} : eX (.mpc ks vs)=.mpc ks vs:=Eq.trans rfl rfl
end
structure KY {α:Type} (E:jC α) (C:List D) (o:Nat) (l:List α):Prop where
 fit:o+l.length*E.size≤C.length
 eq:(C.drop o).take (l.length*E.size)=ab E l
theorem KY.split {α:Type} {E:jC α} {C:List D} {o:Nat} {l:List α} (F:KY E C o l):C.drop o=ab E l++C.drop (o+l.length*E.size):=by
 rw[← List.drop_drop]
 conv=>lhs;rw[← List.take_append_drop (l.length*E.size) (C.drop o)]
 rw[F.eq]
theorem KY.idx {α:Type} {E:jC α} {C:List D} {o:Nat} {l:List α} {i:Int} {x:α} (F:KY E C o l) (h:P.idx l i=some x):o+i.toNat*E.size+E.size≤C.length∧∃rest,C.drop (o+i.toNat*E.size)=E.cells x++rest:=by
 have h1:=uc E h
 have h2:=F.fit
 refine⟨by omega,ab E (l.drop (i.toNat+1))++C.drop (o+l.length*E.size),?_⟩
 rw[← List.drop_drop,F.split,List.drop_append_of_le_length (by rw[cL];omega),wJ E h,List.append_assoc]
theorem KY.tail {α:Type} {E:jC α} {C:List D} {o:Nat} {l m:List α} {a:Int} (F:KY E C o l) (h:Cx l a (l.length:Int)=some m):KY E C (o+a.toNat*E.size) m:=by
 obtain⟨h1,h2,h3,h4,h5⟩:=VM E h
 have h6:=F.fit
 have h7:a.toNat*E.size+m.length*E.size=l.length*E.size:=by rw[← Nat.add_mul];congr 1;omega
 refine⟨by omega,?_⟩
 rw[← List.drop_drop,F.split,List.drop_append_of_le_length (by rw[cL];omega),List.take_append_of_le_length (by rw[List.length_drop,cL];omega),h5]
theorem Xx:type_of% (ai @JN<|ai @JR<|ai @Jp<|ai @Js<|ai @NS<|ai @UR<|ai @UQ<|ai @JP<|ai @E0<|ai @JX<|ai @JW<|ai @JV<|ai @KO<|ai @FQ<|ai @KN<|ai @UB<|ai @Jm<|ai @Sn<|ai @FF<|ai @UW<|ai @RN<|@UX):=⟨@JN,@JR,@Jp,@Js,@NS,@UR,@UQ,@JP,@E0,@JX,@JW,@JV,@KO,@FQ,@KN,@UB,@Jm,@Sn,@FF,@UW,@RN,@UX⟩
theorem Xy:type_of% (ai @H4<|ai @Nq<|ai @HX<|ai @QM<|ai @Nk<|ai @QL<|ai @Nl<|ai @H5<|ai @H7<|ai @QN<|ai @N3<|ai @RV<|ai @RS<|ai @RU<|ai @N2<|ai @Rl<|ai @Rj<|ai @Rk<|ai @NL<|ai @I1<|ai @EV<|ai @EU<|ai @I4<|ai @BK<|ai @I5<|ai @Fe<|ai @Fc<|ai @EP<|ai @D6<|ai @AP<|ai @Iu<|@Us):=⟨@H4,@Nq,@HX,@QM,@Nk,@QL,@Nl,@H5,@H7,@QN,@N3,@RV,@RS,@RU,@N2,@Rl,@Rj,@Rk,@NL,@I1,@EV,@EU,@I4,@BK,@I5,@Fe,@Fc,@EP,@D6,@AP,@Iu,@Us⟩
theorem Xz:type_of% (ai @yF<|ai @yJ<|ai @AZ<|ai @A2<|ai @uI<|ai @uM<|ai @AY<|ai @A1<|ai @vc<|ai @xf<|ai @rW<|ai @xe<|ai @Qx<|ai @M5<|@Qy):=⟨@yF,@yJ,@AZ,@A2,@uI,@uM,@AY,@A1,@vc,@xf,@rW,@xe,@Qx,@M5,@Qy⟩
theorem Xw:type_of% (ai @Jl<|ai @RB<|ai @Jn<|ai @Sp<|ai @CB<|ai @ER<|@Rh):=⟨@Jl,@RB,@Jn,@Sp,@CB,@ER,@Rh⟩
theorem vi:type_of% (ai @Xx<|ai @Xy<|ai @Xw<|@Xz):=⟨@Xx,@Xy,@Xw,@Xz⟩
def Qm (P:Program) (f:FuncId):Prop:=∀(blk off cap:Nat) (zs:List Int) (w:World),Go.Sort.Holds (Value.int .i64) w blk off zs.toArray→blk<w.heap.size→zs.length<4611686018427387904 →
 Calls P f #[.slice (some ⟨blk,off,none⟩) zs.length cap] w fun e w'=>e=.returned (.tuple #[])∧∃n os,w'=Go.Sort.grow (Go.Sort.putRow (Value.int .i64) (Go.Sort.ahead w n) blk off (fY zs).toArray) os
theorem iQ (k:IntKind):∀(l:List Int) (j:Nat),(ab (eI k) l)[j]? = l[j]?.map fun n =>.int k n
 | [],j=>by simp[ab]
 | x::l,0=>by simp[ab,eI]
 | x::l,j+1=>by
  have:=iQ k l j
  simp only[ab,wg,List.cons_append,List.nil_append,List.getElem?_cons_succ]
  exact this
theorem cc (k:IntKind) (l:List Int):(ab (eI k) l).length=l.length:=by rw[cL];show l.length*1=_;omega
theorem tl {w:World} {b off:Nat} {d:List Int} {cs:Array Value} {ty:Nat} {fr:Nat×Nat} (h:w.heap[b]? = some (.cells cs ty fr)):(Go.Sort.putRow (Value.int .i64) w b off d.toArray).heap[b]? = some (.cells (Go.Sort.putCells (Value.int .i64) off d.toArray cs) ty fr):=by
 simp[Go.Sort.putRow,Go.Sort.mapBlock,Array.getElem?_modify,h,Go.Sort.onCells]
theorem kG {w:World} {b c off:Nat} {d:List Int} (h:c≠b):(Go.Sort.putRow (Value.int .i64) w b off d.toArray).heap[c]? = w.heap[c]?:=by
 simp[Go.Sort.putRow,Go.Sort.mapBlock,Array.getElem?_modify,Ne.symm h]
theorem qS {off:Nat} {d:List Int} {cs:Array Value} {k:Nat} (hk:k<cs.size):(Go.Sort.putCells (Value.int .i64) off d.toArray cs).getD k undef=if off≤k∧k<off+d.length then .int .i64 (d.getD (k-off) 0) else cs.getD k undef:=by
 have h1:(Go.Sort.putCells (Value.int .i64) off d.toArray cs)[k]? = some (if off≤k∧k<off+d.length then .int .i64 (d.getD (k-off) 0) else cs[k]):=by
  simp only[Go.Sort.putCells,Array.getElem?_mapIdx,Array.getElem?_eq_getElem hk,Option.map_some,List.size_toArray]
  congr 1
  split
  ·rename_i hc
   congr 1
   have:k-off<d.length:=by omega
   simp[List.getD,this]
  ·rfl
 rw[Array.getD_eq_getD_getElem?,h1]
 simp[Array.getD_eq_getD_getElem?,hk]
theorem Ua {P:Program} {f:FuncId} {fn:Func} {ty:Nat} {F small:List Int→Option (List Int×Unit)} (hf:P.funcs[f]? = some fn) (hc:(fn.name == "runtime.NumGoroutine")=false∧fn.body.isNone=false)
  (hF:∀l,F l=if l.length<4611686018427387904 then some (fY l,()) else none) (hs:bM P f (Qb ty (eI .i64) Tn (fun l (_:Unit)=>small l) (fun _:Unit =>.clean (.tup [])))) (h0:small []=some ([],())) (hS:Qm P f) :
  bM P f (Qb ty (eI .i64) Tn (fun l (_:Unit)=>F l) (fun _:Unit =>.clean (.tup []))) where
 callable:=⟨fn,hf,hc⟩
 calls lent YC rk out hg:=by
  obtain⟨pre,l,post,a,l',r,rfl,rfl,hr,rfl,rfl⟩:=JT hg
  rw[hF]at hr
  split at hr
  ·rename_i hlen
   cases hr
   by_cases hl:l=[]
   ·subst hl
    rw[yl]
    exact hs.calls _ _ _ _ (by rw[B0];simp[h0])
   ·intro w M go u0 vs hM hgoM hz hmp hrow hlv hargs
    have hpos:0<l.length:=List.length_pos_iff.2 hl
    have hvs:vs = #[]:=by
     have:=hargs.1
     simpa [Tn] using this
    subst hvs
    cases go with
    | none =>
     have hce:pre++(ab (eI .i64) l++post)=[]:=hrow
     have:=congrArg List.length hce
     rw[List.length_append,List.length_append,cc,List.length_nil]at this
     omega
    | some g =>
     obtain⟨cs,h1,h2,h3⟩:=hrow
     simp only[List.length_append,cc]at h2
     have hcell:∀j,j<l.length→cs.getD (g.2+(pre.length+j)) undef=.int .i64 (l.getD j 0):=by
      intro j hj
      have hd:(pre++(ab (eI .i64) l++post))[pre.length+j]? = some (.int .i64 (l.getD j 0)):=by
       rw[List.getElem?_append_right (by omega),Nat.add_sub_cancel_left,List.getElem?_append_left (by rw[cc];exact hj),iQ]
       simp[List.getD,hj]
      obtain⟨_,hp⟩:=h3 _ _ hd
      cases hu:cs.getD (g.2+(pre.length+j)) undef<;>rw[hu]at hp<;>cases hp
      rfl
     rcases hlv.2 ⟨0,0,[],false,false,false⟩ rfl rfl with⟨g',o',c,N,t,k0,k1,k2,k3,k4,k5⟩|⟨k0,_⟩
     ·cases k0
      obtain⟨rfl,k6⟩:=k2 (.inl (by omega))
      subst k1
      have hlt:g.1<w.heap.size:=(Array.getElem?_eq_some_iff.1 h1).1
      have hH:Go.Sort.Holds (Value.int .i64) w g.1 (g.2+pre.length) l.toArray:=by
       intro j hj
       simp only[List.size_toArray]at hj
       refine⟨?_,by simp[World.frozen?,h1]⟩
       have:=bp h1 (j:=g.2+pre.length+j) (by omega)
       rw[this,Nat.add_assoc,hcell j hj]
       simp[List.getD,hj]
      refine (hS g.1 (g.2+pre.length) c l w hH hlt hlen).mono fun e w' ⟨he,n,os,hw⟩ =>?_
      subst hw
      refine⟨.tuple #[],he,?_,?_,?_⟩
      ·refine⟨rfl,rfl,rfl,by simp[Go.Sort.ahead],fun k hk hn =>?_⟩
       have hkg:k≠g.1:=fun e=>hn ⟨g,rfl,e⟩
       rw[Go.Sort.heap_grow_old _ _ (by simpa [Go.Sort.ahead] using hk),kG hkg]
       rfl
      ·have hnew:(Go.Sort.grow (Go.Sort.putRow (Value.int .i64) (Go.Sort.ahead w n) g.1 (g.2+pre.length) (fY l).toArray) os).heap[g.1]? = some (.cells (Go.Sort.putCells (Value.int .i64) (g.2+pre.length) (fY l).toArray cs) ty (0,0)):=by
        rw[Go.Sort.heap_grow_old _ _ (by simpa [Go.Sort.ahead] using hlt)]
        exact tl h1
       have hsz:(Go.Sort.putCells (Value.int .i64) (g.2+pre.length) (fY l).toArray cs).size=cs.size:=by simp[Go.Sort.putCells]
       refine⟨rfl,rfl,rfl,fun g' hg' =>?_,?_⟩
       ·cases hg'
        simp[World.shape?,hnew,h1,hsz]
       ·refine⟨_,hnew,?_,fun j d hj =>?_⟩
        ·simp only[List.length_append,cc,fp,hsz];exact h2
        ·have hjl:j<pre.length+(l.length+post.length):=by
          have:=(List.getElem?_eq_some_iff.1 hj).1
          simpa [cc,fp] using this
         have hrest:∀ {d:D} {u:Value},RP w (fun b=>M b∨mn (some g) b) d u→RP (Go.Sort.grow (Go.Sort.putRow (Value.int .i64) (Go.Sort.ahead w n) g.1 (g.2+pre.length) (fY l).toArray) os) (fun b=>M b∨mn (some g) b) d u:=by
          intro d u hu
          refine hu.keep fun b q1 q2=>⟨by simp[Go.Sort.ahead];omega,q2,?_⟩
          have hbg:b≠g.1:=fun e=>q2 (.inr ⟨g,rfl,e⟩)
          rw[Go.Sort.heap_grow_old _ _ (by simpa [Go.Sort.ahead] using q1),kG hbg]
          rfl
         rw[qS (by omega),fp]
         by_cases hin:pre.length≤j∧j<pre.length+l.length
         ·rw[if_pos (by omega)]
          rw[List.getElem?_append_right (by omega),List.getElem?_append_left (by rw[cc,fp];omega),iQ,Option.map_eq_some_iff]at hj
          obtain⟨z,hz,rfl⟩:=hj
          have e1:g.2+j-(g.2+pre.length)=j-pre.length:=by omega
          rw[e1]
          have e2:(fY l).getD (j-pre.length) 0=z:=by simp[List.getD,hz]
          rw[e2]
          exact⟨rfl,.int _ _⟩
         ·rw[if_neg (by omega)]
          have hj':(pre++(ab (eI .i64) l++post))[j]? = some d:=by
           by_cases hlo:j<pre.length
           ·rw[List.getElem?_append_left hlo]at hj ⊢
            exact hj
           ·rw[List.getElem?_append_right (by omega),List.getElem?_append_right (by rw[cc,fp];omega),cc,fp]at hj
            rw[List.getElem?_append_right (by omega),List.getElem?_append_right (by rw[cc];omega),cc]
            exact hj
          exact⟨(h3 j d hj').1,hrest (h3 j d hj').2⟩
      ·exact .tup [] [] rfl (fun j x hj=>by simp at hj)
     ·cases k0
  ·cases hr
end Go.Proofs.YtpkahnkoecbndaaGreatDoor.Am
namespace Go.Proofs.YtpkahnkoecbndaaGreatDoor.P
open Go.RowKit
set_option linter.unusedSimpArgs false
set_option linter.unusedVariables false
theorem wrap64 {x:Int} (h1 : -9223372036854775808≤x) (h2:x<9223372036854775808):IntKind.i64.wrap x=x:=by
 have key:IntKind.i64.wrap x=if x % 18446744073709551616≥9223372036854775808 then x % 18446744073709551616-18446744073709551616 else x % 18446744073709551616:=by
  unfold IntKind.wrap
  by_cases h:x % 18446744073709551616≥9223372036854775808
  ·rw[if_pos h];exact if_pos (by simpa [IntKind.bits,IntKind.signed] using h)
  ·rw[if_neg h];exact if_neg (by simpa [IntKind.bits,IntKind.signed] using h)
 rw[key]
 split<;>omega
theorem Nb (b:ByteArray):∀(n i:Nat) (r:List UInt8),b.size-i=n→ByteArray.toList.loop b i r=r.reverse++b.data.toList.drop i
 | 0,i,r,h=>by
  rw[ByteArray.toList.loop]
  have hb:b.data.toList.length=b.size:=Array.length_toList
  rw[if_neg (by omega),List.drop_eq_nil_of_le (by omega),List.append_nil]
 | n+1,i,r,h=>by
  rw[ByteArray.toList.loop]
  have hi:i<b.size:=by omega
  have hb:i<b.data.toList.length:=by rw[Array.length_toList];exact hi
  rw[if_pos hi,Nb b n (i+1) _ (by omega),List.drop_eq_getElem_cons hb]
  have hg:b.get! i=b.data.toList[i]:=by
   have:b.get! i=b.data[i]!:=rfl
   rw[this]
   have hd:i<b.data.size:=by simpa using hb
   rw[getElem!_pos b.data i hd]
   exact (Array.getElem_toList hd).symm
  rw[hg]
  simp
theorem DT (b:ByteArray):b.toList=b.data.toList:=by
 unfold ByteArray.toList
 rw[Nb b (b.size-0) 0 [] rfl]
 simp
theorem Vk {a b:ByteArray} (h:a.toList=b.toList):a=b:=by
 rw[DT,DT]at h
 cases a;cases b
 simp only[ByteArray.mk.injEq]
 exact Array.ext' h
theorem Ue {a b:ByteArray} : (a.toList==b.toList)=decide (a=b):=by
 by_cases h:a=b
 ·subst h;simp
 ·have:¬a.toList=b.toList:=fun h'=>h (Vk h')
  simp[h,this]
theorem Vj {a b:ByteArray} : (a==b)=decide (a=b):=by
 have e:(a==b)=(a.data==b.data):=by cases a;cases b;rfl
 rw[e]
 by_cases h:a=b
 ·subst h;simp
 ·have:¬a.data=b.data:=fun h'=>h (by cases a;cases b;simp only[ByteArray.mk.injEq];exact h')
  simp[h,this]
theorem sX {α:Type} {l:List α} {i:Int} {x:α} (h0:0≤i) (h:l[i.toNat]? = some x):P.idx l i=some x:=by
 have:=(List.getElem?_eq_some_iff.1 h).1
 unfold P.idx
 rw[if_pos ⟨h0,by omega⟩,h]
theorem Aa {α:Type} {l:List α} {i:Int} (h0:0≤i) (h:i<l.length):P.idx l i=some (l[i.toNat]'(by omega)):=sX h0 (List.getElem?_eq_getElem (by omega))
theorem cq {α:Type} {l:List α} {i:Nat} (h:i<l.length):P.idx l (i:Int)=some (l[i]):=sX (by omega) (by simp[h])
theorem Af {α:Type} {l:List α} {i:Nat} (h:i≤l.length):Cx l 0 (i:Int)=some (l.take i):=by
 unfold Cx
 rw[if_pos ⟨by omega,by omega,by omega⟩]
 simp
end Go.Proofs.YtpkahnkoecbndaaGreatDoor.P
namespace Go.Proofs.YtpkahnkoecbndaaGreatDoor.Am
open Go.RowKit Go.Deep Go.ChangeShapes Go.WideShapes
set_option linter.unusedSimpArgs false
set_option linter.unusedVariables false
def zD (T:Nat→Option Ty):Nat→Nat→List D→Prop
 | 0,_,_=>False
 | n+1,t,xs =>
  match T t with
  | none=>False
  | some τ=>xs.length=τ.size ∧
   match τ.ds with
   | .int k=>∃i,xs=[.int k i]∧(Lit.int k i).wf=true
   | .bool=>∃b,xs=[.bool b]
   | .str=>∃s:ByteArray,xs=[.str s]∧s.size≤140737488351232
   | .slice e=>∃len ys φ,xs=[.sl false false len ys]∧len*φ.bytes≤140737488351232∧T e=some φ∧ys.length=len*φ.size∧∀i,i<len→zD T n e ((ys.drop (i*φ.size)).take φ.size)
   | .struct fs=>∀f∈fs,∃φ,T f.1=some φ∧zD T n f.1 ((xs.drop f.2).take φ.size)
   | .arr m e=>∃φ,T e=some φ∧∀i,i<m→zD T n e ((xs.drop (i*φ.size)).take φ.size)
   | .map _ _=>False
   | .other=>False
def yV (T:Nat→Option Ty):Nat→List (Nat×Nat)→Nat→Bool
 | o,[],z=>o==z
 | o,(ft,off)::fs,z=>off==o&&match T ft with|some φ=>yV T (o+φ.size) fs z|none=>false
def PD (T:Nat→Option Ty):Nat→Nat→Bool
 | 0,_=>false
 | n+1,t =>
  match T t with
  | none=>false
  | some τ =>
   match τ.ds with
   | .int _ | .bool | .str=>τ.size==1
   | .slice e=>τ.size==1&&PD T n e&&(match T e with|some φ=>decide (0<φ.size)|none=>false)
   | .struct fs=>yV T 0 fs τ.size&&fs.all fun f=>PD T n f.1
   | .arr m e=>PD T n e&&(match T e with|some φ=>τ.size==m*φ.size|none=>false)
   | .map _ _=>false
   | .other=>false
def k9 (w:World) (M:Nat→Prop) (xs:List D) (cs:List Value):Prop:=xs.length=cs.length∧∀(j:Nat) (x:D),xs[j]? = some x→aU x=true∧∃v,cs[j]? = some v∧RP w M x v
theorem k9.append {w:World} {M:Nat→Prop} {xs ys:List D} {cs ds:List Value} (h:k9 w M xs cs) (k:k9 w M ys ds):k9 w M (xs++ys) (cs++ds):=by
 refine⟨by simp[h.1,k.1],fun j x hj =>?_⟩
 rw[List.getElem?_append]at hj ⊢
 rw[← h.1]
 split at hj
 ·rename_i hlt;rw[if_pos hlt];exact h.2 j x hj
 ·rename_i hlt;rw[if_neg hlt];exact k.2 _ x hj
theorem Bw {α:Type} (s:Nat):∀(ls:List (List α)),(∀l∈ls,l.length=s)→∀(i:Nat) (l:List α),ls[i]? = some l→(ls.flatten.drop (i*s)).take s=l
 | [],_,i,l,h=>by simp at h
 | a::ls,hl,0,l,h=>by
  simp only[List.getElem?_cons_zero,Option.some.injEq]at h
  subst h
  have:a.length=s:=hl a (by simp)
  simp[this]
 | a::ls,hl,i+1,l,h=>by
  have ha:a.length=s:=hl a (by simp)
  rw[List.flatten_cons,List.drop_append,List.drop_eq_nil_of_le (by rw[ha,Nat.succ_mul];omega),List.nil_append,ha,Nat.succ_mul,Nat.add_sub_cancel]
  exact Bw s ls (fun x hx=>hl x (List.mem_cons_of_mem _ hx)) i l h
theorem IF {α:Type} (s:Nat):∀(ls:List (List α)),(∀l∈ls,l.length=s)→ls.flatten.length=ls.length*s
 | [],_=>by simp
 | a::ls,hl=>by
  rw[List.flatten_cons,List.length_append,IF s ls (fun x hx=>hl x (List.mem_cons_of_mem _ hx)),hl a (by simp),List.length_cons,Nat.succ_mul]
  omega
section
variable {H:Type} {enc:TypeId×Value→H} {P:Program} {w:World} {base:Nat} {spare:Nat→Bool} {held:Bool} {T:Nat→Option Ty}
theorem dx.bytesOf {P:Program} {t:Nat} {τ:Ty} (h:dx P t τ):P.bytesOf t=τ.bytes:=by
 have:=h.info
 unfold Program.bytesOf
 cases hi:P.info? t with
 | none=>rw[hi]at this;simp at this
 | some i=>rw[hi]at this;simp only[Option.map_some,Option.some.injEq,Prod.mk.injEq]at this;simp[this.2.1]
def Reach (P:Program) (t:Nat) (d:DataW H):Prop:=∀k∈d.weights P t,k≤140737488351232
theorem yh {e:TypeId} : ∀(l:List (DataW H)) (j:Nat) (d:DataW H),l[j]? = some d→∀k∈d.weights P e,k∈DataW.weightsAll P e l
 | x::l,0,d,h,k,hk=>by
  simp only[List.getElem?_cons_zero,Option.some.injEq]at h
  subst h
  simp only[DataW.weightsAll,List.mem_append]
  exact .inl hk
 | x::l,j+1,d,h,k,hk=>by
  simp only[DataW.weightsAll,List.mem_append]
  exact .inr (yh l j d (by simpa using h) k hk)
 | [],j,d,h,k,hk=>by simp at h
theorem dx.cells {P:Program} {t:Nat} {τ:Ty} (h:dx P t τ):P.cellsOf t=τ.size:=by
 have:=h.info
 unfold Program.cellsOf
 cases hi:P.info? t with
 | none=>rw[hi]at this;simp at this
 | some i=>rw[hi]at this;simp only[Option.map_some,Option.some.injEq,Prod.mk.injEq]at this;simp[this.1]
theorem NO {T:Nat→Option Ty} {w:World} {M:Nat→Prop} {cs:List Value} : ∀(fs:List (Nat×Nat)) (o z:Nat) (f:Nat×Nat→List D),yV T o fs z=true→cs.length=z →
  (∀p∈fs,∃φ,T p.1=some φ∧k9 w M (f p) ((cs.drop p.2).take φ.size))→o≤z→∃xs,k9 w M xs (cs.drop o)∧∀p∈fs,∃φ,T p.1=some φ∧o≤p.2∧(xs.drop (p.2-o)).take φ.size=f p
 | [],o,z,f,hl,hc,_,_=>by
  simp only[yV,beq_iff_eq]at hl
  refine⟨[],⟨by rw[List.length_drop,hc,hl];simp,fun j x hj=>by simp at hj⟩,fun p hp=>by simp at hp⟩
 | (ft,off)::fs,o,z,f,hl,hc,hp,hoz=>by
  simp only[yV,Bool.and_eq_true,beq_iff_eq]at hl
  obtain⟨rfl,hl⟩:=hl
  obtain⟨φ,hφ,hR⟩:=hp (ft,off) (by simp)
  simp only[hφ]at hl
  have hz:off+φ.size≤z:=by
   have:∀(fs:List (Nat×Nat)) (o:Nat),yV T o fs z=true→o≤z:=by
    intro fs
    induction fs with
    | nil=>intro o h;simp only[yV,beq_iff_eq]at h;omega
    | cons p fs ih =>
     intro o h
     obtain⟨a,b⟩:=p
     simp only[yV,Bool.and_eq_true]at h
     have h2:=h.2
     split at h2
     ·have:=ih _ h2;omega
     ·cases h2
   exact this fs _ hl
  obtain⟨xs,hx,hxs⟩:=NO fs (off+φ.size) z f hl hc (fun p h=>hp p (List.mem_cons_of_mem _ h)) hz
  have hfl:(f (ft,off)).length=φ.size:=by
   rw[hR.1,List.length_take,List.length_drop,hc];omega
  refine⟨f (ft,off)++xs,?_,fun p h =>?_⟩
  ·have:=hR.append hx
   rw[← List.drop_drop,List.take_append_drop]at this
   exact this
  ·rcases List.mem_cons.1 h with rfl|h
   ·exact⟨φ,hφ,Nat.le_refl _,by simp only[Nat.sub_self,List.drop_zero];rw[List.take_append_of_le_length (by omega),List.take_of_length_le (by omega)]⟩
   ·obtain⟨ψ,h1,h2,h3⟩:=hxs p h
    refine⟨ψ,h1,by omega,?_⟩
    rw[List.drop_append,List.drop_eq_nil_of_le (by omega),List.nil_append,hfl]
    have:p.2-off-φ.size=p.2-(off+φ.size):=by omega
    rw[this,h3]
theorem k9.one {w:World} {M:Nat→Prop} {x:D} {v:Value} (hp:aU x=true) (h:RP w M x v):k9 w M [x] [v]:=by
 refine⟨rfl,fun j y hj =>?_⟩
 match j,hj with
 | 0,hj=>simp only[List.getElem?_cons_zero,Option.some.injEq]at hj;subst hj;exact⟨hp,v,rfl,h⟩
 | j+1,hj=>simp at hj
theorem k9.flat {w:World} {M:Nat→Prop} {cs:List Value} {s:Nat} : ∀(ls:List (List D)) (o:Nat),(∀(i:Nat) l,ls[i]? = some l→k9 w M l ((cs.drop (o+i*s)).take s))→(∀l∈ls,l.length=s)→k9 w M ls.flatten ((cs.drop o).take (ls.length*s))
 | [],o,_,_=>⟨by simp,fun j x hj=>by simp at hj⟩
 | a::ls,o,h,hl=>by
  have h0:=h 0 a rfl
  have h1:=k9.flat ls (o+s) (fun i l hi=>by
   have:=h (i+1) l (by simpa using hi)
   rw[Nat.succ_mul]at this
   rw[show o+s+i*s=o+(i*s+s) by omega]
   exact this) (fun l hx=>hl l (List.mem_cons_of_mem _ hx))
  have:=h0.append h1
  rw[Nat.zero_mul,Nat.add_zero]at this
  rw[List.flatten_cons,List.length_cons,Nat.succ_mul,Nat.add_comm (ls.length*s) s,List.take_add,List.drop_drop]
  exact this
theorem Vm (hT:kV P T) {M:Nat→Prop} (hM:∀b,base≤b→b<w.heap.size→¬M b):∀(n t fuel:Nat) (cs:List Value) (x:DataW H×List MemPlace),PD T n t=true→DataW.trod enc P w base spare held fuel t cs=some x→Reach P t x.1→∃xs,zD T n t xs∧k9 w M xs cs:=by
 intro n
 induction n with
 | zero=>intro t fuel cs x h;cases h
 | succ n ih =>
  intro t fuel cs x hok h hw
  unfold PD at hok
  unfold zD
  cases hτ:T t with
  | none=>rw[hτ]at hok;cases hok
  | some τ =>
   rw[hτ]at hok
   simp only at hok ⊢
   obtain⟨d,hd,hc⟩:=under hT hτ
   cases hds:τ.ds with
   | int k =>
    rw[hds]at hok hc
    simp only[beq_iff_eq]at hok
    have hd':=vZ hc
    subst hd'
    obtain⟨i,rfl,_,hw⟩:=DataW.trod_int hd h
    exact⟨[.int k i],⟨by rw[hok];rfl,i,rfl,hw⟩,.one rfl (.int k i)⟩
   | bool =>
    rw[hds]at hok hc
    simp only[beq_iff_eq]at hok
    have hd':=tJ hc
    subst hd'
    obtain⟨b,rfl,_⟩:=DataW.trod_bool hd h
    exact⟨[.bool b],⟨by rw[hok];rfl,b,rfl⟩,.one rfl (.bool b)⟩
   | str =>
    rw[hds]at hok hc
    simp only[beq_iff_eq]at hok
    have hd':=pt hc
    subst hd'
    obtain⟨s,rfl,rfl,hs⟩:=DataW.trod_string hd h
    have hs':s.size≤140737488351232:=by
     have:=hw s.data.toList.length (by simp[DataW.weights])
     simpa using this
    exact⟨[.str s],⟨by rw[hok];rfl,s,rfl,hs'⟩,.one rfl (.str s)⟩
   | map _ _=>rw[hds]at hok;cases hok
   | other=>rw[hds]at hok;cases hok
   | struct fs =>
    rw[hds]at hok hc
    simp only[Bool.and_eq_true,List.all_eq_true]at hok
    obtain⟨F,rfl,hF⟩:=gH hc
    obtain⟨ys,m,_,rfl,hlen,hyl,hf⟩:=DataW.trod_struct hd h
    have hwy:∀(i:Nat) (f:Field) y,F[i]? = some f→ys[i]? = some y→Reach P f.type y.1:=by
     intro i f y hfi hyi k hk
     refine hw k ?_
     simp only[DataW.weights,hd]
     exact DataW.weights_mem_each (j:=i) (t:=f.type) (d:=y.1) (by rw[List.getElem?_map,Array.getElem?_toList,hfi];rfl) (by simp[hyi]) k hk
    rw[(hT t τ hτ).cells]at hlen
    have hone:∀p:Nat×Nat,∃zs,p∈fs→∃φ,T p.1=some φ∧zD T n p.1 zs∧k9 w M zs ((cs.drop p.2).take φ.size):=by
     intro p
     by_cases hp:p∈fs
     ·have hokp:=hok.2 p hp
      rw[← hF]at hp
      obtain⟨f,hfm,rfl⟩:=List.mem_map.1 hp
      obtain⟨i,hi⟩:=List.mem_iff_getElem?.1 hfm
      have h1:=hf i f (by simpa using hi)
      simp only at hokp ⊢
      cases hφ:T f.type with
      | none=>cases n with
       | zero=>cases hokp
       | succ n=>simp only[PD,hφ]at hokp;cases hokp
      | some φ =>
       rw[(hT _ φ hφ).cells]at h1
       have hi':i<ys.length:=by
        have:=(List.getElem?_eq_some_iff.1 hi).1
        simp only[Array.length_toList]at this
        omega
       rw[List.getElem?_eq_getElem hi']at h1
       obtain⟨zs,hz1,hz2⟩:=ih _ _ _ _ hokp h1 (hwy i f _ (by simpa using hi) (List.getElem?_eq_getElem hi'))
       exact⟨zs,fun _=>⟨φ,rfl,hz1,hz2⟩⟩
     ·exact⟨[],fun h=>(hp h).elim⟩
    obtain⟨f,hf2⟩:=Classical.axiomOfChoice hone
    obtain⟨xs,hx,hparts⟩:=NO fs 0 τ.size f hok.1 hlen (fun p hp=>by obtain⟨φ,a,_,b⟩:=hf2 p hp;exact⟨φ,a,b⟩) (Nat.zero_le _)
    rw[List.drop_zero]at hx
    refine⟨xs,⟨by rw[hx.1,hlen],fun p hp =>?_⟩,hx⟩
    obtain⟨φ,h1,_,h3⟩:=hparts p hp
    obtain⟨ψ,g1,g2,_⟩:=hf2 p hp
    rw[h1]at g1
    cases g1
    rw[Nat.sub_zero]at h3
    exact⟨φ,h1,by rw[h3];exact g2⟩
   | arr m e =>
    rw[hds]at hok hc
    simp only[Bool.and_eq_true]at hok
    have hd':=vY hc
    subst hd'
    obtain⟨ys,k,_,rfl,hlen,hyl,hf⟩:=DataW.trod_array hd h
    have hwy:∀(i:Nat) y,ys[i]? = some y→Reach P e y.1:=by
     intro i y hyi k hk
     refine hw k ?_
     simp only[DataW.weights,hd]
     exact yh _ i y.1 (by simp[hyi]) k hk
    rw[(hT t τ hτ).cells]at hlen
    obtain⟨hok1,hok2⟩:=hok
    split at hok2
    ·rename_i φ hφ
     simp only[beq_iff_eq]at hok2
     have hone:∀i:Nat,∃zs,i<m→zD T n e zs∧k9 w M zs ((cs.drop (i*φ.size)).take φ.size):=by
      intro i
      by_cases hi:i<m
      ·have h1:=hf i hi
       rw[(hT _ φ hφ).cells,List.getElem?_eq_getElem (by omega)]at h1
       obtain⟨zs,hz1,hz2⟩:=ih _ _ _ _ hok1 h1 (hwy i _ (List.getElem?_eq_getElem (by omega)))
       exact⟨zs,fun _=>⟨hz1,hz2⟩⟩
      ·exact⟨[],fun h=>(hi h).elim⟩
     obtain⟨f,hf2⟩:=Classical.axiomOfChoice hone
     have hls:∀l∈(List.range m).map f,l.length=φ.size:=by
      intro l hl
      obtain⟨i,hi,rfl⟩:=List.mem_map.1 hl
      have hi:=List.mem_range.1 hi
      rw[(hf2 i hi).2.1,List.length_take,List.length_drop,hlen,hok2]
      have:(i+1)*φ.size≤m*φ.size:=Nat.mul_le_mul_right _ hi
      rw[Nat.succ_mul]at this
      omega
     have hget:∀(i:Nat) l,((List.range m).map f)[i]? = some l→i<m∧l=f i:=by
      intro i l hl
      rw[List.getElem?_map,Option.map_eq_some_iff]at hl
      obtain⟨j,hj,rfl⟩:=hl
      obtain⟨hj1,hj2⟩:=List.getElem?_eq_some_iff.1 hj
      simp only[List.length_range]at hj1
      simp only[List.getElem_range]at hj2
      exact⟨hj1,by rw[hj2]⟩
     have hall:k9 w M ((List.range m).map f).flatten ((cs.drop 0).take (((List.range m).map f).length*φ.size)):=by
      refine k9.flat _ 0 (fun i l hl =>?_) hls
      obtain⟨hi,rfl⟩:=hget i l hl
      rw[Nat.zero_add]
      exact (hf2 i hi).2
     rw[List.length_map,List.length_range,List.drop_zero,List.take_of_length_le (by omega)]at hall
     refine⟨_,⟨by rw[hall.1,hlen],φ,hφ,fun i hi =>?_⟩,hall⟩
     have hi':((List.range m).map f)[i]? = some (f i):=by simp[hi]
     rw[Bw φ.size _ hls i _ hi']
     exact (hf2 i hi).1
    ·cases hok2
   | slice e =>
    rw[hds]at hok hc
    simp only[Bool.and_eq_true,beq_iff_eq]at hok
    have hd':=fA hc
    subst hd'
    obtain⟨⟨hone,hoke⟩,hpos⟩:=hok
    split at hpos
    ·rename_i φ hφ
     simp only[decide_eq_true_eq]at hpos
     rcases open_slice hd h with⟨rfl,_⟩|⟨a,len,cap,m,k,D',Pl,rfl,hb,hl,hm,hmm,rfl,hi⟩
     ·refine⟨[.sl false false 0 []],⟨by rw[hone];rfl,0,[],φ,rfl,by omega,hφ,by simp,fun i hi=>by omega⟩,.one rfl ?_⟩
      exact .sl none 0 false false 0 [] (fun _=>undef) (Nat.le_refl _) (Nat.zero_le _) (fun h=>by cases h) (fun _=>⟨rfl,rfl⟩) (fun h=>by cases h) (fun h=>(h rfl).elim) (fun j x hj=>by simp at hj) (fun x hx=>by simp at hx)
     ·have hlm:len≤m:=by rw[hmm];split<;>omega
      have hwl:len*φ.bytes≤140737488351232:=by
       have h1:=hw ((((List.range len).map D').length+((List.range (m-len)).map fun j=>D' (len+j)).length)*P.bytesOf e) (by simp[DataW.weights,hd])
       rw[(hT _ φ hφ).bytesOf]at h1
       simp only[List.length_map,List.length_range]at h1
       exact Nat.le_trans (Nat.mul_le_mul_right _ (by omega)) h1
      have hwy:∀i,i<len→Reach P e (D' i):=by
       intro i hi' k hk
       refine hw k ?_
       simp only[DataW.weights,hd,List.mem_cons,List.mem_append]
       exact .inr (.inl (yh _ i (D' i) (by simp[hi']) k hk))
      have hone':∀i:Nat,∃zs,i<len→zD T n e zs∧zs.length=φ.size∧∀(j:Nat) z,zs[j]? = some z→aU z=true∧∃v,w.cell? (a.add (i*φ.size+j))=some v∧RP w M z v:=by
       intro i
       by_cases hil:i<len
       ·obtain⟨cs',hc1,hc2⟩:=hi i (by omega)
        rw[(hT _ φ hφ).cells]at hc1
        obtain⟨_,g1,g2⟩:=World.cells?_some hc1
        obtain⟨zs,hz1,hz2⟩:=ih _ _ _ _ hoke hc2 (hwy i hil)
        refine⟨zs,fun _=>⟨hz1,by rw[hz2.1,g1],fun j z hj =>?_⟩⟩
        obtain⟨p1,v,p2,p3⟩:=hz2.2 j z hj
        refine⟨p1,v,?_,p3⟩
        have hj':j<φ.size:=by rw[← g1];exact (List.getElem?_eq_some_iff.1 p2).1
        rw[← Go.Deep.add_add,g2 j hj',p2]
       ·exact⟨[],fun h=>(hil h).elim⟩
      obtain⟨f,hf2⟩:=Classical.axiomOfChoice hone'
      have hls:∀l∈(List.range len).map f,l.length=φ.size:=by
       intro l hl
       obtain⟨i,hi,rfl⟩:=List.mem_map.1 hl
       exact (hf2 i (List.mem_range.1 hi)).2.1
      have hfl:((List.range len).map f).flatten.length=len*φ.size:=by rw[IF φ.size _ hls];simp
      have hseg:∀i,i<len→(((List.range len).map f).flatten.drop (i*φ.size)).take φ.size=f i:=fun i hi=>Bw φ.size _ hls i (f i) (by simp[hi])
      have hat:∀(p:Nat) z,((List.range len).map f).flatten[p]? = some z→aU z=true∧∃v,w.cell? (a.add p)=some v∧RP w M z v:=by
       intro p z hp
       have hpl:=(List.getElem?_eq_some_iff.1 hp).1
       rw[hfl]at hpl
       have hq:p / φ.size<len:=Nat.div_lt_of_lt_mul (by rwa [Nat.mul_comm])
       have hr:p % φ.size<φ.size:=Nat.mod_lt _ hpos
       have he:p / φ.size*φ.size+p % φ.size=p:=Nat.div_add_mod' p φ.size
       have hz:(f (p / φ.size))[p % φ.size]? = some z:=by
        rw[← hseg _ hq,List.getElem?_take,if_pos hr,List.getElem?_drop,he]
        exact hp
       have:=(hf2 _ hq).2.2 _ z hz
       rw[he]at this
       exact this
      refine⟨[.sl false false len ((List.range len).map f).flatten],⟨by rw[hone];rfl,len,_,φ,rfl,hwl,hφ,hfl,fun i hi=>by rw[hseg i hi];exact (hf2 i hi).1⟩,.one rfl ?_⟩
      refine .sl (some a) cap false false len _ (fun j=>(w.cell? (a.add j)).getD undef) hl hm (fun h=>by cases h) (fun h=>by cases h) (fun h=>by cases h) (fun hne =>?_) (fun j z hj =>?_) (fun z hz =>?_)
      ·have h0:0<((List.range len).map f).flatten.length:=List.length_pos_iff.2 hne
       obtain⟨_,v,hv,_⟩:=hat 0 _ (List.getElem?_eq_getElem h0)
       obtain⟨b,o,sp⟩:=a
       have hsp:sp=none:=by
        unfold World.cell? at hv
        split at hv
        ·split at hv
         ·cases hv
         ·rename_i h;simpa [Addr.add] using h
        ·cases hv
       subst hsp
       have hbs:b<w.heap.size:=by
        unfold World.cell? at hv
        split at hv
        ·rename_i hh;exact (Array.getElem?_eq_some_iff.1 hh).1
        ·cases hv
       refine⟨b,o,rfl,hbs,hM b hb hbs,fun j hj =>?_⟩
       obtain⟨_,v,hv,_⟩:=hat j _ (List.getElem?_eq_getElem hj)
       have ha:Addr.add ⟨b,o,none⟩ j=⟨b,o+j,none⟩:=by
        unfold Addr.add
        split
        ·rename_i h0;rw[h0];rfl
        ·rfl
       have hv':w.cell? ⟨b,o+j,none⟩=some v:=by rw[← ha];exact hv
       rw[hv']
       simp only[hv,Option.getD_some]
      ·obtain⟨_,v,hv,hr⟩:=hat j z hj
       rw[hv]
       exact hr
      ·obtain⟨j,hj⟩:=List.mem_iff_getElem?.1 hz
       exact (hat j z hj).1
    ·cases hpos
def pS (T:Nat→Option Ty) (n t:Nat) (d:D):Prop :=
 match T t with
 | some τ=>if τ.ds.od then ∃xs,d=.agg xs∧zD T n t xs else zD T n t [d]
 | none=>False
theorem k9.agg {w:World} {M:Nat→Prop} {xs:List D} {cs:Array Value} (h:k9 w M xs cs.toList):RP w M (.agg xs) (.agg cs):=by
 have:=RP.agg (w:=w) (M:=M) xs cs.toList h.1.symm (fun j x hj=>by
  obtain⟨_,v,h1,h2⟩:=h.2 j x hj
  simp only[List.getD,h1,Option.getD_some]
  exact h2) (fun x hx=>by
  obtain⟨j,hj⟩:=List.mem_iff_getElem?.1 hx
  exact (h.2 j x hj).1)
 simpa using this
theorem k9.single {w:World} {M:Nat→Prop} {xs:List D} {v:Value} (h:k9 w M xs [v]):∃x,xs=[x]∧RP w M x v:=by
 match xs,h with
 | [],h=>have:=h.1;simp at this
 | [x],h=>obtain⟨_,u,h1,h2⟩:=h.2 0 x rfl;simp only[List.getElem?_cons_zero,Option.some.injEq]at h1;subst h1;exact⟨x,rfl,h2⟩
 | x::y::xs,h=>have:=h.1;simp at this
theorem Tz (hT:kV P T) {M:Nat→Prop} (hM:∀b,base≤b→b<w.heap.size→¬M b) {n t b0:Nat} {v:Value} {d:DataW H} {ps:List MemPlace} (hok:PD T n t=true) (hv:Value.okWide P w .any b0 t v) (h:DataW.Trod enc P w base spare held t v d ps) (hw:Reach P t d) :
  ∃x,pS T n t x∧RP w M x v:=by
 obtain⟨fuel,h⟩:=h
 obtain⟨xs,h1,h2⟩:=Vm hT hM n t fuel _ _ hok h hw
 unfold pS
 cases n with
 | zero=>cases hok
 | succ n =>
 cases hτ:T t with
 | none=>simp only[PD,hτ]at hok;cases hok
 | some τ =>
  simp only
  obtain⟨d',hd,hc⟩:=under hT hτ
  cases hds:τ.ds with
  | int k =>
   rw[hds]at hc
   have hd':=vZ hc
   subst hd'
   obtain⟨i,rfl⟩:=okWide_int hd hv
   obtain⟨x,rfl,hx⟩:=k9.single (v := .int k i) h2
   exact⟨x,by simpa [Ds.od] using h1,hx⟩
  | bool =>
   rw[hds]at hc
   have hd':=tJ hc
   subst hd'
   obtain⟨i,rfl⟩:=okWide_bool hd hv
   obtain⟨x,rfl,hx⟩:=k9.single (v := .bool i) h2
   exact⟨x,by simpa [Ds.od] using h1,hx⟩
  | str =>
   rw[hds]at hc
   have hd':=pt hc
   subst hd'
   obtain⟨i,rfl⟩:=okWide_string hd hv
   obtain⟨x,rfl,hx⟩:=k9.single (v := .string i) h2
   exact⟨x,by simpa [Ds.od] using h1,hx⟩
  | slice e =>
   rw[hds]at hc
   have hd':=fA hc
   subst hd'
   obtain⟨a,len,cap,rfl⟩:=okWide_slice hd hv
   obtain⟨x,rfl,hx⟩:=k9.single (v := .slice a len cap) h2
   exact⟨x,by simpa [Ds.od] using h1,hx⟩
  | struct fs =>
   rw[hds]at hc
   obtain⟨F,rfl,_⟩:=gH hc
   obtain⟨cs,rfl,_⟩:=okWide_struct hd hv
   exact⟨.agg xs,by simpa [Ds.od] using h1,k9.agg h2⟩
  | arr m e =>
   rw[hds]at hc
   have hd':=vY hc
   subst hd'
   have:∃cs,v=.agg cs:=by
    unfold Value.okWide at hv
    rw[hd]at hv
    obtain⟨cs,h,_⟩:=hv
    exact⟨cs,h⟩
   obtain⟨cs,rfl⟩:=this
   exact⟨.agg xs,by simpa [Ds.od] using h1,k9.agg h2⟩
  | map _ _=>simp only[PD,hτ,hds]at hok;cases hok
  | other=>simp only[PD,hτ,hds]at hok;cases hok
theorem DX (hT:kV P T) {M:Nat→Prop} (hM:∀b,base≤b→b<w.heap.size→¬M b) {n b0:Nat} : ∀(ts:List TypeId) (vs:List Value) (ds:List (DataW H)) (ps:List MemPlace),DataW.TrodAll enc P w base spare held ts vs ds ps →
  (∀(j:Nat) t v,ts[j]? = some t→vs[j]? = some v→Value.okWide P w .any b0 t v)→(∀t∈ts,PD T n t=true)→(∀k∈DataW.weightsEach P ts ds,k≤140737488351232) →
  ∃ar:List D,ar.length=vs.length∧(∀(j:Nat) x,ar[j]? = some x→∃v,vs[j]? = some v∧RP w M x v)∧ar.length=ts.length∧∀(j:Nat) t,ts[j]? = some t→∃x,ar[j]? = some x∧pS T n t x
 | [],[],[],ps,_,_,_,_=>⟨[],rfl,fun j x hj=>by simp at hj,rfl,fun j t hj=>by simp at hj⟩
 | t::ts,v::vs,d::ds,ps,h,hv,hok,hw=>by
  obtain⟨p,q,h1,h2,_⟩:=h
  obtain⟨x,hx1,hx2⟩:=Tz hT hM (hok t (by simp)) (hv 0 t v rfl rfl) h1 (fun k hk=>hw k (by simp only[DataW.weightsEach,List.mem_append];exact .inl hk))
  obtain⟨ar,g1,g2,g3,g4⟩:=DX hT hM ts vs ds q h2 (fun j t' v' a b=>hv (j+1) t' v' (by simpa using a) (by simpa using b)) (fun t' ht=>hok t' (List.mem_cons_of_mem _ ht)) (fun k hk=>hw k (by simp only[DataW.weightsEach,List.mem_append];exact .inr hk))
  refine⟨x::ar,by simp[g1],fun j y hj =>?_,by simp[g3],fun j t' hj =>?_⟩
  ·cases j with
   | zero=>simp only[List.getElem?_cons_zero,Option.some.injEq]at hj;subst hj;exact⟨v,rfl,hx2⟩
   | succ j=>simpa using g2 j y (by simpa using hj)
  ·cases j with
   | zero=>simp only[List.getElem?_cons_zero,Option.some.injEq]at hj;subst hj;exact⟨x,rfl,hx1⟩
   | succ j=>simpa using g4 j t' (by simpa using hj)
 | [],[],_::_,_,h,_,_,_=>h.elim
 | [],_::_,_,_,h,_,_,_=>h.elim
 | _::_,[],_,_,h,_,_,_=>h.elim
 | _::_,_::_,[],_,h,_,_,_=>h.elim
end
end Go.Proofs.YtpkahnkoecbndaaGreatDoor.Am
namespace Go.Proofs.YtpkahnkoecbndaaGreatDoor.Am
open Go.RowKit Go.Deep Go.ChangeShapes Go.WideShapes Go.ChangeAt
set_option linter.unusedSimpArgs false
set_option linter.unusedVariables false
section
variable {H:Type} {enc:TypeId×Value→H} {P:Program}
theorem DF {f:Func} {s:ChangeSpec} {apart fresh handsOn again:Bool} {W W':World} {args:Array Value} {v:Value} {ds gs:List (DataW H)} {before pa pv:List MemPlace}
  (hW:DataW.Whole enc P f.params.toList s.vars apart W args.toList ds gs before)
  (hres:∀(b:Nat) (sp:Nat→Bool) (hd:Bool),DataW.TrodAll enc P W' b sp hd f.resultTypes.toList (v.resultList f.resultTypes.size) (s.fn H (ds++gs)).results [])
  (hargs:∀sp:Nat→Bool,(∀p∈before,sp p.block=true)→DataW.TrodAll enc P W' 0 sp true f.params.toList args.toList (s.fn H (ds++gs)).args pa)
  (hvars:∀sp:Nat→Bool,(∀p∈before,sp p.block=true)→DataW.TrodVars enc P W' sp s.vars (s.fn H (ds++gs)).vars pv)
  (hps:before=pa++pv) (hb:Below W.heap.size W W')
  (hok:∀(j:Nat) (t:TypeId) (r:Value),f.resultTypes[j]? = some t→(v.resultList f.resultTypes.size)[j]? = some r→Value.okWide P W' .any 0 t r) :
  s.post enc P f apart fresh handsOn again W args v W':=by
 have hlt:∀p∈before,p.block<W.heap.size:=fun p hp=>hW.lt p hp
 have hold:∀p∈before,(fun b=>decide (b<W.heap.size)) p.block=true:=fun p hp=>by simpa using hlt p hp
 refine⟨ds,gs,before,[],pa,pv,hW,hres _ _ _,hargs _ hold,hvars _ hold,World.keptBut_mono (fun p hp=>⟨hp,?_⟩) (hb.frame (·∈before)),fun _ =>?_⟩
 ·rw[hps,List.mem_append]at hp
  exact Or.inr hp
 ·obtain⟨_,_,_,_,_,hz,hn⟩:=hW
  refine⟨hok,_,_,([]++pa)++pv,⟨[]++pa,pv,trodAll_append (hargs _ (fun _ _=>rfl)) (hres _ _ _),hvars _ (fun _ _=>rfl),rfl,?_,?_⟩,?_⟩
  ·intro b off hp
   have hin:MemPlace.cell b off∈before:=by rw[hps];simpa using hp
   rw[hb.frozen (hlt _ hin)]
   exact hz b off hin
  ·intro ha
   have:=hn ha
   rw[hps]at this
   simpa using this
  ·intro p hp _
   rw[hps]
   simpa using hp
theorem vd (hl:laidOutB P=true) {W W':World} {sp':Nat→Bool} : ∀ {ts:List TypeId} {vs:List Value} {ds:List (DataW H)} {ps:List MemPlace},(∀t∈ts,P.readableRec t=true∧t<P.types.size)→DataW.TrodAll enc P W 0 (fun _=>true) true ts vs ds ps →
  (∀p∈ps,W.sameAt W' p)→(∀p∈ps,sp' p.block=true)→DataW.TrodAll enc P W' 0 sp' true ts vs ds ps
 | [],[],[],_,_,h,_,_=>h
 | t::ts,v::vs,d::ds,_,hr,⟨p,q,h1,h2,e⟩,hs,hp=>by
  subst e
  have ht:=hr t (by simp)
  exact⟨p,q,WideElems.Trod_stays hl ht.1 ht.2 h1 (fun x hx=>hs x (List.mem_append_left _ hx)) (fun x hx=>hp x (List.mem_append_left _ hx)),
   vd hl (fun t ht=>hr t (List.mem_cons_of_mem _ ht)) h2 (fun x hx=>hs x (List.mem_append_right _ hx)) (fun x hx=>hp x (List.mem_append_right _ hx)),rfl⟩
end
theorem R8 {H:Type} {enc:TypeId×Value→H} {C:Checked} {T:Nat→Option Ty} {f:FuncId} {fn:Func} {s:ChangeSpec} {apart fresh handsOn again:Bool} {tb n:Nat} (hT:kV C.prog T)
  (hl:laidOutB C.prog=true) (hr:(fn.params.toList.all fun t=>C.prog.readableRec t&&decide (t<C.prog.types.size)&&PD T n t)=true)
  (hres:fn.resultTypes = #[tb]) (htb:C.prog.underlying tb=some .bool) (hv:s.vars=[])
  (hs:∀ds:List (DataW H),ds.length=fn.params.toList.length→(s.fn H ds).results=[.lit (.bool true)]∧(s.fn H ds).args=ds∧(s.fn H ds).vars=[])
  (law:∀ar:List D,ar.length=fn.params.toList.length→(∀(j:Nat) t,fn.params.toList[j]? = some t→∃x,ar[j]? = some x∧pS T n t x)→KW C.prog f ar (.bool true))
  {W:World} {base:Nat} {args:Array Value} {ds gs:List (DataW H)} {before:List MemPlace}
  (hval:∀(j:Nat) t v,fn.params[j]? = some t→args[j]? = some v→Value.okWide C.prog W .any base t v) (hW:DataW.Whole enc C.prog fn.params.toList s.vars apart W args.toList ds gs before)
  (hsz:(DataW.weightsEach C.prog (fn.params.toList++s.plain.varTypes C.prog) (ds++gs)).all (·≤reachBytes)=true) (hTab:FX W (fun _=>False)) :
  Calls C.prog f args W fun e W'=>∃v,e=.returned v∧s.post enc C.prog fn apart fresh handsOn again W args v W':=by
 have hW':=hW
 obtain⟨p,q,hA,hV,rfl,hfz,hnd⟩:=hW
 rw[hv]at hV
 obtain⟨rfl,rfl⟩:=trodVars_none hV
 simp only[List.all_eq_true,Bool.and_eq_true,decide_eq_true_eq]at hr
 obtain⟨ar,h1,h2,h3,h4⟩:=DX (P:=C.prog) hT (M:=fun _=>False) (fun b _ _ h=>h) (n:=n) (b0:=base) fn.params.toList args.toList ds p hA
  (fun j t v a b=>hval j t v (by simpa using a) (by simpa using b)) (fun t ht=>(hr t ht).2) (fun k hk=>by
   rw[List.all_eq_true]at hsz
   have hv0:s.plain.varTypes C.prog=[]:=by unfold ChangeSpec.plain;simp only[hv];rfl
   rw[hv0,List.append_nil,List.append_nil]at hsz
   have h:=hsz k hk
   rw[decide_eq_true_eq]at h
   exact h)
 refine (law ar h3 h4 W (fun _=>False) args (fun b h=>h.elim) ⟨by simpa using h1.symm,fun j x hj =>?_,hTab⟩).mono fun e W' hG =>?_
 ·obtain⟨v,g1,g2⟩:=h2 j x hj
  have g1':args[j]? = some v:=by simpa using g1
  rw[Array.getD_eq_getD_getElem?,g1']
  exact g2
 ·obtain⟨v,rfl,hb,hv1⟩:=hG
  have hv2:RP W' (fun _=>False) (.bool true) v:=hv1
  cases hv2
  have hlen:ds.length=fn.params.toList.length:=by
   have:∀ {ts:List TypeId} {vs:List Value} {ds:List (DataW H)} {ps:List MemPlace},DataW.TrodAll enc C.prog W 0 (fun _=>true) true ts vs ds ps→ds.length=ts.length:=by
    intro ts
    induction ts with
    | nil=>intro vs ds ps h;cases vs<;>cases ds<;>first|rfl|exact h.elim
    | cons t ts ih =>
     intro vs ds ps h
     cases vs with
     | nil=>exact h.elim
     | cons v vs=>cases ds with
      | nil=>exact h.elim
      | cons d ds=>obtain⟨_,_,_,h2,_⟩:=h;simp[ih h2]
   exact this hA
  obtain⟨e1,e2,e3⟩:=hs ds hlen
  refine⟨_,rfl,DF (pa:=p) (pv:=[]) hW' ?_ ?_ ?_ (by simp) hb ?_⟩
  ·intro b sp hd
   rw[List.append_nil,e1,hres]
   exact trodAll_mk1 ⟨1,by simp[DataW.trod,htb,Value.cells]⟩
  ·intro sp hsp
   rw[List.append_nil,e2]
   refine vd hl (fun t ht=>(hr t ht).1) hA (fun x hx=>hb.same (hW'.lt x (by simpa using hx))) (fun x hx=>hsp x (by simpa using hx))
  ·intro sp _
   rw[List.append_nil,e3,hv]
   rfl
  ·exact ok_one hres rfl (by simp[Value.okWide,htb,Cell.okWide,Cell.ok])
theorem R9 {H:Type} {enc:TypeId×Value→H} {C:Checked} {os:Os} {T:Nat→Option Ty} {f:FuncId} {fn:Func} {s:ChangeSpec} {conds:List PathCond} {apart fresh handsOn again:Bool} {tb n:Nat} {X:World→Array Value→Prop}
  (hX:∀(w w':World) (args:Array Value),w.heap=w'.heap→X w args→X w' args) (hTab:∀(w:World) (args:Array Value),X w args→FX w (fun _=>False))
  (hT:kV C.prog T) (own:ownKnob C.prog.godebug=none) (started:os.Started) (noInit:C.prog.inits.idxOf? f=none) (hfn:C.prog.funcs[f]? = some fn)
  (witness:∃(w:World) (tape:Tape) (i:Input),w.os=os∧(w.forCall tape i).Shaped C.prog∧i.vars=[]∧Input.okWide C.prog (w.forCall tape i) .any w.heap.size f i ∧
   ((s.pre enc C.prog fn conds apart (w.forCall tape i).memory i.args∧X (w.forCall tape i).memory i.args)∧sizedMet enc C.prog fn (OpenSpec.ofChange s) apart (w.forCall tape i).memory i.args)∧({} : Assume).holds C.prog (lone (Frame.enter C.prog f i.args .normal) [] (w.forCall tape i)))
  (hl:laidOutB C.prog=true) (hr:(fn.params.toList.all fun t=>C.prog.readableRec t&&decide (t<C.prog.types.size)&&PD T n t)=true)
  (hres:fn.resultTypes = #[tb]) (htb:C.prog.underlying tb=some .bool) (hv:s.vars=[])
  (hs:∀ds:List (DataW H),ds.length=fn.params.toList.length→(s.fn H ds).results=[.lit (.bool true)]∧(s.fn H ds).args=ds∧(s.fn H ds).vars=[])
  (law:∀ar:List D,ar.length=fn.params.toList.length→(∀(j:Nat) t,fn.params.toList[j]? = some t→∃x,ar[j]? = some x∧pS T n t x)→KW C.prog f ar (.bool true)) :
  ReturnsInHanded {} C os f .any (fun w args=>(s.pre enc C.prog fn conds apart w args∧X w args)∧sizedMet enc C.prog fn (OpenSpec.ofChange s) apart w args) (s.post enc C.prog fn apart fresh handsOn again):=by
 refine returnsInHanded_of_change_and hX own started noInit hfn witness ?_
 intro W base args ds gs before hval hW _ hsz hx _
 exact R8 hT hl hr hres htb hv hs law hval hW hsz (hTab W args hx)
end Go.Proofs.YtpkahnkoecbndaaGreatDoor.Am
namespace Go.Proofs.YtpkahnkoecbndaaGreatDoor.Am
open Go.RowKit
set_option linter.unusedSimpArgs false
set_option linter.unusedVariables false
theorem Wh {T:Nat→Option Ty} {n t:Nat} {ar:List D} (h:ar.length=[t].length) (hs:∀(j:Nat) u,[t][j]? = some u→∃x,ar[j]? = some x∧pS T n u x):∃a,ar=[a]∧pS T n t a:=by
 match ar,h with
 | [a],_=>obtain⟨x,h1,h2⟩:=hs 0 t rfl;cases h1;exact⟨a,rfl,h2⟩
theorem Wi {T:Nat→Option Ty} {n t:Nat} {ts:List Nat} {ar:List D} (h:ar.length=(t::ts).length) (hs:∀(j:Nat) u,(t::ts)[j]? = some u→∃x,ar[j]? = some x∧pS T n u x) :
  ∃a YC,ar=a::YC∧pS T n t a∧YC.length=ts.length∧∀(j:Nat) u,ts[j]? = some u→∃x,YC[j]? = some x∧pS T n u x:=by
 match ar,h with
 | a::YC,h =>
  obtain⟨x,h1,h2⟩:=hs 0 t rfl
  cases h1
  exact⟨a,YC,rfl,h2,by simpa using h,fun j u hu=>by simpa using hs (j+1) u (by simpa using hu)⟩
section
variable {T:Nat→Option Ty} {n t:Nat} {τ:Ty} {d:D}
theorem Tu {k:IntKind} (h:pS T (n+1) t d) (hτ:T t=some τ) (hd:τ.ds=.int k):∃i,d=.int k i∧(Lit.int k i).wf=true:=by
 simp only[pS,hτ,hd,Ds.od,Bool.false_eq_true,if_false,zD]at h
 obtain⟨_,i,hi,hw⟩:=h
 cases hi
 exact⟨i,rfl,hw⟩
theorem K4 {fs:List (Nat×Nat)} (h:pS T n t d) (hτ:T t=some τ) (hd:τ.ds=.struct fs):∃xs,d=.agg xs∧zD T n t xs:=by
 simp only[pS,hτ,hd,Ds.od,if_true]at h
 exact h
theorem OU {e:Nat} (h:pS T n t d) (hτ:T t=some τ) (hd:τ.ds=.slice e):zD T n t [d]:=by
 simp only[pS,hτ,hd,Ds.od,Bool.false_eq_true,if_false]at h
 exact h
theorem Ug {k:IntKind} {xs:List D} (h:zD T (n+1) t xs) (hτ:T t=some τ) (hd:τ.ds=.int k):∃i,xs=[.int k i]∧(Lit.int k i).wf=true:=by
 simp only[zD,hτ,hd]at h
 exact h.2
theorem Uh {xs:List D} (h:zD T (n+1) t xs) (hτ:T t=some τ) (hd:τ.ds=.str):∃s:ByteArray,xs=[.str s]∧s.size≤140737488351232:=by
 simp only[zD,hτ,hd]at h
 exact h.2
theorem P3 {e:Nat} {φ:Ty} {xs:List D} (h:zD T (n+1) t xs) (hτ:T t=some τ) (hd:τ.ds=.slice e) (hφ:T e=some φ) :
  ∃len ys,xs=[.sl false false len ys]∧len*φ.bytes≤140737488351232∧ys.length=len*φ.size∧∀i,i<len→zD T n e ((ys.drop (i*φ.size)).take φ.size):=by
 simp only[zD,hτ,hd]at h
 obtain⟨_,len,ys,ψ,h1,h3,h4,h5,h6⟩:=h
 rw[hφ]at h4
 cases h4
 exact⟨len,ys,h1,h3,h5,h6⟩
theorem MC {fs:List (Nat×Nat)} {xs:List D} (h:zD T (n+1) t xs) (hτ:T t=some τ) (hd:τ.ds=.struct fs):xs.length=τ.size∧∀f∈fs,∃φ,T f.1=some φ∧zD T n f.1 ((xs.drop f.2).take φ.size):=by
 simp only[zD,hτ,hd]at h
 exact h
end
end Go.Proofs.YtpkahnkoecbndaaGreatDoor.Am
namespace Go.Proofs.YtpkahnkoecbndaaGreatDoor.Am
open Go.RowKit Go.Proofs.YtpkahnkoecbndaaGreatDoor.P
set_option linter.unusedSimpArgs false
set_option linter.unusedVariables false
def CR {α:Type} (T:Nat→Option Ty) (n t:Nat) (E:jC α) (ok:α→Prop):Prop:=(∃φ,T t=some φ∧φ.size=E.size)∧∀xs,zD T n t xs→∃x,xs=E.cells x∧ok x
section
variable {T:Nat→Option Ty} {n t:Nat} {τ:Ty}
theorem YB {k:IntKind} (hτ:T t=some τ) (hd:τ.ds=.int k) (hs:τ.size=1):CR T (n+1) t (eI k) (fun i=>(Lit.int k i).wf=true):=⟨⟨τ,hτ,hs⟩,fun _ h=>Ug h hτ hd⟩
theorem WE (hτ:T t=some τ) (hd:τ.ds=.str) (hs:τ.size=1):CR T (n+1) t fF (fun s=>s.size≤140737488351232):=⟨⟨τ,hτ,hs⟩,fun _ h=>Uh h hτ hd⟩
theorem U3 {α:Type} (E:jC α) (ok:α→Prop):∀(len:Nat) (ys:List D),ys.length=len*E.size→(∀i,i<len→∃x,(ys.drop (i*E.size)).take E.size=E.cells x∧ok x)→∃l:List α,l.length=len∧ys=ab E l∧∀x∈l,ok x
 | 0,ys,hl,_=>⟨[],rfl,by simpa [ab] using hl,fun x hx=>by simp at hx⟩
 | len+1,ys,hl,h=>by
  obtain⟨x,hx,hok⟩:=h 0 (by omega)
  obtain⟨l,h1,h2,h3⟩:=U3 E ok len (ys.drop E.size) (by rw[List.length_drop,hl,Nat.succ_mul];omega) (fun i hi=>by
   obtain⟨y,hy,hy2⟩:=h (i+1) (by omega)
   refine⟨y,?_,hy2⟩
   rw[List.drop_drop]
   rw[Nat.succ_mul,Nat.add_comm]at hy
   exact hy)
  rw[Nat.zero_mul,List.drop_zero]at hx
  refine⟨x::l,by simp[h1],?_,fun y hy =>?_⟩
  ·rw[aN,← h2,← hx,List.take_append_drop]
  ·rcases List.mem_cons.1 hy with rfl|hy
   ·exact hok
   ·exact h3 y hy
theorem T0 {α:Type} {E:jC α} {ok:α→Prop} {e:Nat} (hτ:T t=some τ) (hd:τ.ds=.slice e) (hs:τ.size=1) {B:Nat} (hB:(T e).map (·.bytes)=some B) (he:CR T n e E ok):CR T (n+1) t (pQ E) (fun l=>l.length*B≤140737488351232∧∀x∈l,ok x):=by
 obtain⟨⟨φ,hφ,hz⟩,hx⟩:=he
 have hb:φ.bytes=B:=by rw[hφ]at hB;simpa using hB
 refine⟨⟨τ,hτ,hs⟩,fun xs h =>?_⟩
 obtain⟨len,ys,h1,h2,h3,h4⟩:=P3 h hτ hd hφ
 rw[hz]at h3 h4
 rw[hb]at h2
 obtain⟨l,k1,k2,k3⟩:=U3 E ok len ys h3 fun i hi=>hx _ (h4 i hi)
 subst k1 k2
 exact⟨l,h1,h2,k3⟩
def XC {α:Type} (T:Nat→Option Ty) (n:Nat) (fs:List (Nat×Nat)) (o:Nat) (E:jC α) (ok:α→Prop):Prop :=
 ∀xs:List D,xs.length=o+E.size→(∀f∈fs,∃φ,T f.1=some φ∧zD T n f.1 ((xs.drop f.2).take φ.size))→∃x,xs.drop o=E.cells x∧ok x
theorem PH {α:Type} {E:jC α} {ok:α→Prop} {ft o:Nat} (h:CR T n ft E ok):XC T n [(ft,o)] o E ok:=by
 obtain⟨⟨φ,hφ,hz⟩,hx⟩:=h
 intro xs hl hf
 obtain⟨ψ,h1,h2⟩:=hf (ft,o) (by simp)
 cases hφ.symm.trans h1
 rw[List.take_of_length_le (by rw[List.length_drop];omega)]at h2
 exact hx _ h2
theorem G5 {α β:Type} {E:jC α} {ok:α→Prop} {E':jC β} {ok':β→Prop} {ft o o':Nat} {fs:List (Nat×Nat)} (h:CR T n ft E ok) (ho:o'=o+E.size) (h':XC T n fs o' E' ok'):XC T n ((ft,o)::fs) o (kv E E') (fun x=>ok x.1∧ok' x.2):=by
 subst ho
 obtain⟨⟨φ,hφ,hz⟩,hx⟩:=h
 intro xs hl hf
 obtain⟨ψ,h1,h2⟩:=hf (ft,o) (by simp)
 cases hφ.symm.trans h1
 obtain⟨x,hx1,hx2⟩:=hx _ h2
 obtain⟨y,hy1,hy2⟩:=h' xs (by rw[hl];show o+(E.size+E'.size)=_;omega) fun f hf'=>hf f (List.mem_cons_of_mem _ hf')
 refine⟨(x,y),?_,hx2,hy2⟩
 show xs.drop o=E.cells x++E'.cells y
 rw[← hx1,← hy1,← hz,← List.drop_drop,List.take_append_drop]
theorem V5 {α β:Type} {E:jC β} {ok:β→Prop} {f:α→β} {hf:∀x y,f x=f y→x=y} {g:β→α} {fs:List (Nat×Nat)} (hτ:T t=some τ) (hd:τ.ds=.struct fs) (hs:τ.size=E.size) (hg:∀y,f (g y)=y) (h:XC T n fs 0 E ok):CR T (n+1) t (zF E f hf) (fun x=>ok (f x)):=by
 refine⟨⟨τ,hτ,hs⟩,fun xs hx =>?_⟩
 obtain⟨h1,h2⟩:=MC hx hτ hd
 obtain⟨y,h3,h4⟩:=h xs (by rw[h1,hs,Nat.zero_add]) h2
 refine⟨g y,?_,?_⟩
 ·show xs=E.cells (f (g y))
  rw[hg,← h3,List.drop_zero]
 ·show ok (f (g y))
  rw[hg];exact h4
def Wd {α:Type} (T:Nat→Option Ty) (n t:Nat) (A:Arg α) (ok:α→Prop):Prop:=∀d,pS T n t d→∃x,d=A.d x∧ok x
theorem YA {k:IntKind} (hτ:T t=some τ) (hd:τ.ds=.int k):Wd T (n+1) t (aI k) (fun i=>(Lit.int k i).wf=true):=fun _ h=>Tu h hτ hd
theorem X3 {α:Type} {E:jC α} {ok:List α→Prop} {e:Nat} (hτ:T t=some τ) (hd:τ.ds=.slice e) (hE:CR T n t (pQ E) ok):Wd T n t (iI E) ok:=fun d h=>by
 obtain⟨x,h1,h2⟩:=hE.2 _ (OU h hτ hd)
 simp only[xJ,List.cons.injEq,and_true]at h1
 exact⟨x,h1,h2⟩
theorem Yj {α:Type} {E:jC α} {ok:α→Prop} {fs:List (Nat×Nat)} (hτ:T t=some τ) (hd:τ.ds=.struct fs) (hE:CR T n t E ok):Wd T n t (dm E) ok:=fun d h=>by
 obtain⟨xs,rfl,h1⟩:=K4 h hτ hd
 obtain⟨x,h1,h2⟩:=hE.2 _ h1
 exact⟨x,by rw[h1];rfl,h2⟩
def Qi {α:Type} (T:Nat→Option Ty) (n:Nat) (ts:List Nat) (A:mo α) (ok:α→Prop):Prop:=∀ar:List D,ar.length=ts.length→(∀(j:Nat) u,ts[j]? = some u→∃x,ar[j]? = some x∧pS T n u x)→∃x,ar=A.ds x∧ok x
theorem X4 {α:Type} {A:Arg α} {ok:α→Prop} (h:Wd T n t A ok):Qi T n [t] (dR A) ok:=fun ar hl hs=>by
 obtain⟨a,rfl,ha⟩:=Wh hl hs
 obtain⟨x,rfl,hx⟩:=h a ha
 exact⟨x,rfl,hx⟩
theorem VE {α β:Type} {A:Arg α} {ok:α→Prop} {B:mo β} {ok':β→Prop} {ts:List Nat} (h:Wd T n t A ok) (h':Qi T n ts B ok'):Qi T n (t::ts) (dU A B) (fun x=>ok x.1∧ok' x.2):=fun ar hl hs=>by
 obtain⟨a,ar,rfl,ha,hl',hs'⟩:=Wi hl hs
 obtain⟨x,rfl,hx⟩:=h a ha
 obtain⟨y,rfl,hy⟩:=h' ar hl' hs'
 exact⟨(x,y),rfl,hx,hy⟩
theorem Vz {P:Program} {f:FuncId} {α:Type} {A:mo α} {F:α→Option Bool} {ok:α→Prop} {ts:List Nat} (ho:Qi T n ts A ok) (hG:bM P f (eN A F (fun r =>.clean (.bool r)))) (h:∀x,ok x→F x=some true) (ar:List D) (hl:ar.length=ts.length)
  (hs:∀(j:Nat) u,ts[j]? = some u→∃x,ar[j]? = some x∧pS T n u x):KW P f ar (.bool true):=by
 obtain⟨x,rfl,hx⟩:=ho ar hl hs
 refine hG.calls none _ _ none ?_
 rw[aJ,h x hx]
 rfl
end
end Go.Proofs.YtpkahnkoecbndaaGreatDoor.Am
namespace Go.Proofs.YtpkahnkoecbndaaGreatDoor.P
open Go.RowKit
set_option linter.unusedSimpArgs false
set_option linter.unusedVariables false
def BP (n:Int):ByteArray:=⟨(Lib.itoa n).toArray⟩
def Ww (n:Int):Option ByteArray:=if -9223372036854775808≤n∧n≤9223372036854775807 then some (BP n) else none
def iF (l:List Int):List UInt8:=l.flatMap fun x=>Lib.itoa x++[59]
def mD (l:List Int):List UInt8:=Lib.itoa l.length++(91::(iF l++[93]))
def NZ (l:List Int):Option ByteArray:=if (∀x∈l,-9223372036854775808≤x∧x≤9223372036854775807)∧l.length*8≤140737488351232∧(mD l).length≤140737488355328 then some ⟨(mD l).toArray⟩ else none
def Nv (l:List Int):Option (List Int):=if l.length≤9223372036854775807 then some (Lib.compact l) else none
def Ah (l:List Int):Option (List Int):=some l
def xa (l:List Int):Option (List Int):=if l.length*8≤140737488351232 then some (fY l) else none
def Vw {α:Type} (bytes:Nat) (l:List α) (i:Int) (xs:List α):Option (List α):=if 0≤i∧i≤l.length∧0<xs.length∧(l.length+xs.length)*bytes≤140737488355328 then some (l.take i.toNat++(xs++l.drop i.toNat)) else none
def y5 {α:Type} (mk:ByteArray→Int→Int→Int→Int→α) (val bl:α→Int) (l:List α) (p:Int×Int):Option α:=(P.idx l p.1).bind fun x=>(P.idx l p.2).bind fun y=>some (mk ⟨#[]⟩ (IntKind.i64.wrap (val x+val y)) (IntKind.i64.wrap (bl x+bl y)) p.1 p.2)
def Ht {α:Type} (_:List α) (x:α):Option α:=some x
end Go.Proofs.YtpkahnkoecbndaaGreatDoor.P
namespace Go.Proofs
open Go.Shelf
def Tryz.Ji:Go.Shelf.Ren:=⟨fun|189=>69|125=>107|257=>106|128=>148|129=>149|294=>139|295=>140|296=>141|297=>142|298=>143|299=>144|216=>145|300=>146|301=>147|328=>170|329=>171|330=>172|331=>173|332=>174|215=>166|343=>180|n=>n,fun|28=>25|3=>3|46=>141|0=>0|51=>176|53=>178|4=>4|183=>170|182=>169|131=>160|5=>5|9=>9|218=>185|222=>189|228=>195|229=>196|n=>n,fun|n=>n⟩
theorem Tryz.Gv:Go.Proofs.Lays.n189 Tryz.prog Tryz.Ji:={
 mixed:=by kernel_rfl
 f125:=Tryz.func107.trans (congrArg some (by kernel_rfl))
 f128:=Tryz.func148.trans (congrArg some (by kernel_rfl))
 f129:=Tryz.func149.trans (congrArg some (by kernel_rfl))
 f189:=Tryz.func69.trans (congrArg some (by kernel_rfl))
 f215:=Tryz.func166.trans (congrArg some (by kernel_rfl))
 f216:=Tryz.func145.trans (congrArg some (by kernel_rfl))
 f257:=Tryz.func106.trans (congrArg some (by kernel_rfl))
 f294:=Tryz.func139.trans (congrArg some (by kernel_rfl))
 f295:=Tryz.func140.trans (congrArg some (by kernel_rfl))
 f296:=Tryz.func141.trans (congrArg some (by kernel_rfl))
 f297:=Tryz.func142.trans (congrArg some (by kernel_rfl))
 f298:=Tryz.func143.trans (congrArg some (by kernel_rfl))
 f299:=Tryz.func144.trans (congrArg some (by kernel_rfl))
 f300:=Tryz.func146.trans (congrArg some (by kernel_rfl))
 f301:=Tryz.func147.trans (congrArg some (by kernel_rfl))
 f328:=Tryz.func170.trans (congrArg some (by kernel_rfl))
 f329:=Tryz.func171.trans (congrArg some (by kernel_rfl))
 f330:=Tryz.func172.trans (congrArg some (by kernel_rfl))
 f331:=Tryz.func173.trans (congrArg some (by kernel_rfl))
 f332:=Tryz.func174.trans (congrArg some (by kernel_rfl))
 f343:=Tryz.func180.trans (congrArg some (by kernel_rfl))
 t0:=Tryz.underlying0
 a0:=Tryz.isAgg0
 z0:=Tryz.sizeOf0
 v0:=Tryz.zeroValue0
 t3:=Tryz.underlying3
 a3:=Tryz.isAgg3
 z3:=Tryz.sizeOf3
 v3:=Tryz.zeroValue3
 t4:=Tryz.underlying4
 a4:=Tryz.isAgg4
 z4:=Tryz.sizeOf4
 v4:=Tryz.zeroValue4
 t5:=Tryz.underlying5
 a5:=Tryz.isAgg5
 z5:=Tryz.sizeOf5
 v5:=Tryz.zeroValue5
 t9:=Tryz.underlying9
 a9:=Tryz.isAgg9
 z9:=Tryz.sizeOf9
 v9:=Tryz.zeroValue9
 t28:=Tryz.underlying25
 a28:=Tryz.isAgg25
 z28:=Tryz.sizeOf25
 v28:=Tryz.zeroValue25
 t46:=Tryz.underlying141
 a46:=Tryz.isAgg141
 z46:=Tryz.sizeOf141
 v46:=Tryz.zeroValue141
 t51:=Tryz.underlying176
 a51:=Tryz.isAgg176
 z51:=Tryz.sizeOf176
 v51:=Tryz.zeroValue176
 t53:=Tryz.underlying178
 a53:=Tryz.isAgg178
 z53:=Tryz.sizeOf178
 v53:=Tryz.zeroValue178
 t131:=Tryz.underlying160
 a131:=Tryz.isAgg160
 z131:=Tryz.sizeOf160
 v131:=Tryz.zeroValue160
 t182:=Tryz.underlying169
 a182:=Tryz.isAgg169
 z182:=Tryz.sizeOf169
 v182:=Tryz.zeroValue169
 t183:=Tryz.underlying170
 a183:=Tryz.isAgg170
 z183:=Tryz.sizeOf170
 v183:=Tryz.zeroValue170
 t218:=Tryz.underlying185
 a218:=Tryz.isAgg185
 z218:=Tryz.sizeOf185
 v218:=Tryz.zeroValue185
 t222:=Tryz.underlying189
 a222:=Tryz.isAgg189
 z222:=Tryz.sizeOf189
 v222:=Tryz.zeroValue189
 t228:=Tryz.underlying195
 a228:=Tryz.isAgg195
 z228:=Tryz.sizeOf195
 v228:=Tryz.zeroValue195
 t229:=Tryz.underlying196
 a229:=Tryz.isAgg196
 z229:=Tryz.sizeOf196
 v229:=Tryz.zeroValue196 }
def Tryz.Gw:Go.Shelf.Ren:=⟨fun|171=>121|243=>161|246=>179|283=>181|284=>182|285=>183|286=>184|129=>149|317=>185|318=>186|319=>187|320=>188|337=>189|338=>190|n=>n,fun|3=>3|9=>9|2=>2|4=>4|171=>198|0=>0|53=>178|37=>148|5=>5|173=>200|212=>204|51=>176|20=>20|213=>205|46=>141|232=>206|233=>207|n=>n,fun|17=>0|18=>1|19=>2|n=>n⟩
theorem Tryz.RA:Go.Proofs.LaysM.n171 Tryz.prog Tryz.Gw:={
 mixed:=by kernel_rfl
 f129:=Tryz.func149.trans (congrArg some (by kernel_rfl))
 f171:=Tryz.func121.trans (congrArg some (by kernel_rfl))
 f243:=Tryz.func161.trans (congrArg some (by kernel_rfl))
 f246:=Tryz.func179.trans (congrArg some (by kernel_rfl))
 f283:=Tryz.func181.trans (congrArg some (by kernel_rfl))
 f284:=Tryz.func182.trans (congrArg some (by kernel_rfl))
 f285:=Tryz.func183.trans (congrArg some (by kernel_rfl))
 f286:=Tryz.func184.trans (congrArg some (by kernel_rfl))
 f317:=Tryz.func185.trans (congrArg some (by kernel_rfl))
 f318:=Tryz.func186.trans (congrArg some (by kernel_rfl))
 f319:=Tryz.func187.trans (congrArg some (by kernel_rfl))
 f320:=Tryz.func188.trans (congrArg some (by kernel_rfl))
 f337:=Tryz.func189.trans (congrArg some (by kernel_rfl))
 f338:=Tryz.func190.trans (congrArg some (by kernel_rfl))
 t0:=Tryz.underlying0
 a0:=Tryz.isAgg0
 z0:=Tryz.sizeOf0
 v0:=Tryz.zeroValue0
 t2:=Tryz.underlying2
 a2:=Tryz.isAgg2
 z2:=Tryz.sizeOf2
 v2:=Tryz.zeroValue2
 t3:=Tryz.underlying3
 a3:=Tryz.isAgg3
 z3:=Tryz.sizeOf3
 v3:=Tryz.zeroValue3
 t4:=Tryz.underlying4
 a4:=Tryz.isAgg4
 z4:=Tryz.sizeOf4
 v4:=Tryz.zeroValue4
 t5:=Tryz.underlying5
 a5:=Tryz.isAgg5
 z5:=Tryz.sizeOf5
 v5:=Tryz.zeroValue5
 t9:=Tryz.underlying9
 a9:=Tryz.isAgg9
 z9:=Tryz.sizeOf9
 v9:=Tryz.zeroValue9
 t20:=Tryz.underlying20
 a20:=Tryz.isAgg20
 z20:=Tryz.sizeOf20
 v20:=Tryz.zeroValue20
 t37:=Tryz.underlying148
 a37:=Tryz.isAgg148
 z37:=Tryz.sizeOf148
 v37:=Tryz.zeroValue148
 t46:=Tryz.underlying141
 a46:=Tryz.isAgg141
 z46:=Tryz.sizeOf141
 v46:=Tryz.zeroValue141
 t51:=Tryz.underlying176
 a51:=Tryz.isAgg176
 z51:=Tryz.sizeOf176
 v51:=Tryz.zeroValue176
 t53:=Tryz.underlying178
 a53:=Tryz.isAgg178
 z53:=Tryz.sizeOf178
 v53:=Tryz.zeroValue178
 t171:=Tryz.underlying198
 a171:=Tryz.isAgg198
 z171:=Tryz.sizeOf198
 v171:=Tryz.zeroValue198
 t173:=Tryz.underlying200
 a173:=Tryz.isAgg200
 z173:=Tryz.sizeOf200
 v173:=Tryz.zeroValue200
 t212:=Tryz.underlying204
 a212:=Tryz.isAgg204
 z212:=Tryz.sizeOf204
 v212:=Tryz.zeroValue204
 t213:=Tryz.underlying205
 a213:=Tryz.isAgg205
 z213:=Tryz.sizeOf205
 t232:=Tryz.underlying206
 a232:=Tryz.isAgg206
 z232:=Tryz.sizeOf206
 v232:=Tryz.zeroValue206
 t233:=Tryz.underlying207
 a233:=Tryz.isAgg207
 z233:=Tryz.sizeOf207
 v233:=Tryz.zeroValue207
 g17:=by kernel_rfl
 g18:=by kernel_rfl
 g19:=by kernel_rfl
 i0:=by kernel_rfl
 i2:=by kernel_rfl
 i3:=by kernel_rfl
 i4:=by kernel_rfl
 i5:=by kernel_rfl
 i9:=by kernel_rfl
 i20:=by kernel_rfl
 i37:=by kernel_rfl
 i46:=by kernel_rfl
 i51:=by kernel_rfl
 i53:=by kernel_rfl
 i171:=by kernel_rfl
 i173:=by kernel_rfl
 i212:=by kernel_rfl
 i232:=by kernel_rfl
 i233:=by kernel_rfl
 m17:=by kernel_rfl
 m18:=by kernel_rfl
 m19:=by kernel_rfl }
def Tryz.yU:Go.Shelf.Ren:=⟨fun|169=>122|n=>n,fun|70=>147|9=>9|0=>0|72=>150|37=>148|127=>181|3=>3|5=>5|n=>n,fun|n=>n⟩
theorem Tryz.TQ:Go.Proofs.Lays.n169 Tryz.prog Tryz.yU:={
 mixed:=by kernel_rfl
 f169:=Tryz.func122.trans (congrArg some (by kernel_rfl))
 t0:=Tryz.underlying0
 a0:=Tryz.isAgg0
 z0:=Tryz.sizeOf0
 v0:=Tryz.zeroValue0
 t3:=Tryz.underlying3
 a3:=Tryz.isAgg3
 z3:=Tryz.sizeOf3
 v3:=Tryz.zeroValue3
 t9:=Tryz.underlying9
 a9:=Tryz.isAgg9
 z9:=Tryz.sizeOf9
 v9:=Tryz.zeroValue9
 t37:=Tryz.underlying148
 a37:=Tryz.isAgg148
 z37:=Tryz.sizeOf148
 v37:=Tryz.zeroValue148
 t70:=Tryz.underlying147
 a70:=Tryz.isAgg147
 z70:=Tryz.sizeOf147
 v70:=Tryz.zeroValue147
 t72:=Tryz.underlying150
 a72:=Tryz.isAgg150
 z72:=Tryz.sizeOf150
 v72:=Tryz.zeroValue150
 t127:=Tryz.underlying181
 a127:=Tryz.isAgg181
 z127:=Tryz.sizeOf181
 v127:=Tryz.zeroValue181 }
def Tryz.LC:Go.Shelf.Ren:=⟨fun|20=>70|n=>n,fun|22=>25|3=>3|4=>4|0=>0|n=>n,fun|n=>n⟩
theorem Tryz.Rz:Go.Proofs.Lays2.n20 Tryz.prog Tryz.LC:={
 mixed:=by kernel_rfl
 f20:=Tryz.func70.trans (congrArg some (by kernel_rfl))
 t0:=Tryz.underlying0
 a0:=Tryz.isAgg0
 z0:=Tryz.sizeOf0
 v0:=Tryz.zeroValue0
 t3:=Tryz.underlying3
 a3:=Tryz.isAgg3
 z3:=Tryz.sizeOf3
 v3:=Tryz.zeroValue3
 t4:=Tryz.underlying4
 a4:=Tryz.isAgg4
 z4:=Tryz.sizeOf4
 v4:=Tryz.zeroValue4
 t22:=Tryz.underlying25
 a22:=Tryz.isAgg25
 z22:=Tryz.sizeOf25
 v22:=Tryz.zeroValue25
 i3:=by kernel_rfl }
def Tryz.LD:Go.Shelf.Ren:=⟨fun|21=>85|27=>117|28=>118|35=>157|39=>177|n=>n,fun|22=>25|3=>3|4=>4|0=>0|n=>n,fun|n=>n⟩
theorem Tryz.VA:Go.Proofs.Lays2.n21 Tryz.prog Tryz.LD:={
 mixed:=by kernel_rfl
 f21:=Tryz.func85.trans (congrArg some (by kernel_rfl))
 f27:=Tryz.func117.trans (congrArg some (by kernel_rfl))
 f28:=Tryz.func118.trans (congrArg some (by kernel_rfl))
 f35:=Tryz.func157.trans (congrArg some (by kernel_rfl))
 f39:=Tryz.func177.trans (congrArg some (by kernel_rfl))
 t0:=Tryz.underlying0
 a0:=Tryz.isAgg0
 z0:=Tryz.sizeOf0
 v0:=Tryz.zeroValue0
 t3:=Tryz.underlying3
 a3:=Tryz.isAgg3
 z3:=Tryz.sizeOf3
 v3:=Tryz.zeroValue3
 t4:=Tryz.underlying4
 a4:=Tryz.isAgg4
 z4:=Tryz.sizeOf4
 v4:=Tryz.zeroValue4
 t22:=Tryz.underlying25
 a22:=Tryz.isAgg25
 z22:=Tryz.sizeOf25
 v22:=Tryz.zeroValue25
 i3:=by kernel_rfl }
theorem Tryz.Rf:Builder.Extra Tryz.prog Tryz.yU:={
 sizeBuilder:=by kernel_rfl
 liesBuilder:=by kernel_rfl
 t5:=Tryz.underlying5
 a5:=Tryz.isAgg5
 z5:=Tryz.sizeOf5
 v5:=Tryz.zeroValue5
 infoByte:=by kernel_rfl
 cellsByte:=by kernel_rfl
 sizeByte:=by kernel_rfl
 neB5:=by decide }
end Go.Proofs
namespace Go.Proofs.YtpkahnkoecbndaaGreatDoor.Am
open Go.RowKit Go.Proofs.YtpkahnkoecbndaaGreatDoor.P
set_option linter.unusedSimpArgs false
set_option linter.unusedVariables false
theorem TO {α:Type} (E:jC α) {B:Nat} {l n:List α} {i:Int} {x:α} (h:Vw B l i [x]=some n):0≤i∧i≤(l.length:Int)∧l.length+1=n.length∧n.length*B≤140737488355328 ∧
  (ab E l).take (i.toNat*E.size)++(E.cells x++(ab E l).drop (i.toNat*E.size))=ab E n:=by
 unfold Vw at h
 split at h
 ·rename_i hc
  cases h
  obtain⟨h1,h2,-,h4⟩:=hc
  have hl:l.length+1=(l.take i.toNat++([x]++l.drop i.toNat)).length:=by simp;omega
  refine⟨h1,h2,hl,by rw[← hl];exact h4,?_⟩
  rw[fP,fP,fm,tK]
  simp[ab]
 ·cases h
theorem Qk {w:World} {M:Nat→Prop} {k:IntKind} {n:Int} {u:Value} (h:RP w M (.int k n) u):u=.int k n:=by cases h;rfl
theorem FW {w:World} {M:Nat→Prop} {k:IntKind} {l:List Int} {u:Value} (h:RP w M (.sl false false l.length (ab (eI k) l)) u) :
  ∃A c,u=.slice A l.length c∧l.length≤c∧c≤maxLen∧(A=none→l.length=0∧c=0)∧(l≠[]→∃b o,A=some ⟨b,o,none⟩∧b<w.heap.size∧¬M b∧∀j,j<l.length→w.cell? ⟨b,o+j,none⟩=some (.int k (l.getD j 0))):=by
 cases h with
 | sl A c nl tight n xs us h1 h2 h3 h4 h5 h6 h7 h8 =>
  refine⟨A,c,rfl,h1,h2,h4,fun hl =>?_⟩
  have hne:ab (eI k) l≠[]:=by
   intro he
   have:=congrArg List.length he
   rw[cc]at this
   exact hl (List.eq_nil_of_length_eq_zero this)
  obtain⟨b,o,rfl,hb,hM,hc⟩:=h6 hne
  refine⟨b,o,rfl,hb,hM,fun j hj =>?_⟩
  rw[hc j (by rw[cc];exact hj)]
  have hg:(ab (eI k) l)[j]? = some (.int k (l.getD j 0)):=by rw[iQ];simp[List.getD,hj]
  rw[Qk (h7 j _ hg)]
theorem MH {vs:Array Value} (h:vs.size=1):vs = #[vs.getD 0 undef]:=by
 apply Array.ext
 ·simp[h]
 ·intro i h1 h2
  have:i=0:=by omega
  subst this
  simp[Array.getElem?_eq_getElem h1]
theorem Ud {P:Program} {f:FuncId} {fn:Func} {α:Type} {A:Arg α} {F:α→Option ByteArray} (hf:P.funcs[f]? = some fn) (hc:(fn.name == "runtime.NumGoroutine")=false∧fn.body.isNone=false)
  (hC:∀x r,F x=some r→∀(w:World) (M:Nat→Prop) (u:Value),RP w M (A.d x) u→FX w M→Calls P f #[u] w fun e w'=>e=.returned (.string r)∧Below w.heap.size w w'):bM P f (eN (dR A) F (fun r =>.clean (.str r))) where
 callable:=⟨fn,hf,hc⟩
 calls lent ds rk out hg:=by
  obtain⟨rfl,rfl,a,r,rfl,hr,rfl⟩:=pF hg
  intro w M vs hM hargs
  have hsz:vs.size=1:=hargs.size
  rw[MH hsz]
  refine (hC a r hr w M _ (hargs.at_ 0 _ rfl) hargs.tab).mono fun e w' ⟨he,hb⟩=>⟨_,he,hb,?_⟩
  exact RP.str r
def Wa (P:Program) (f:FuncId):Prop:=∀(n:Int) (w:World),-9223372036854775808≤n→n≤9223372036854775807→(∀b,rn=some b→∃ty fr,w.heap[b]? = some (.cells mA ty fr))→Calls P f #[.int .i64 n] w fun e w'=>e=.returned (.string (BP n))∧Below w.heap.size w w'
def Qd (P:Program) (f:FuncId):Prop:=(∀(blk off cap:Nat) (zs:List Int) (w:World),Go.Sort.Holds (Value.int .i64) w blk off zs.toArray→zs.length≤9223372036854775807→zs.length≤cap →
 Calls P f #[.slice (some ⟨blk,off,none⟩) zs.length cap] w fun e w'=>e=.returned (.slice (some ⟨blk,off,none⟩) (Lib.compact zs).length cap)∧∃q,w'=Go.Sort.putRow (Value.int .i64) (Go.Sort.ahead w q) blk off (Lib.compact zs++List.replicate (zs.length-(Lib.compact zs).length) 0).toArray) ∧
 ∀(a:Option Addr) (cap:Nat) (w:World),Calls P f #[.slice a 0 cap] w fun e w'=>e=.returned (.slice a 0 cap)∧w'=w
theorem Ec (d:Array Int):∀m:Nat,(Lib.compactUpTo d m).length≤m
 | 0=>by simp[Lib.compactUpTo]
 | m+1=>by
  rw[Lib.compactUpTo_succ,List.length_append]
  have:=Ec d m
  split<;>simp<;>omega
theorem AV (l:List Int):(Lib.compact l).length≤l.length:=Ec _ _
theorem K8 {P:Program} {f:FuncId} {fn:Func} {ty:Nat} (hf:P.funcs[f]? = some fn) (hc:(fn.name == "runtime.NumGoroutine")=false∧fn.body.isNone=false) (hC:Qd P f) :
  bM P f (UT ty (eI .i64) Tn (fun l (_:Unit)=>Nv l)) where
 callable:=⟨fn,hf,hc⟩
 calls lent ds rk out hg:=by
  obtain⟨pre,l,post,a,r,rfl,rfl,hr,rfl,rfl⟩:=JS hg
  unfold Nv at hr
  split at hr
  rotate_left
  ·cases hr
  rename_i hlen
  cases hr
  intro w M go u0 vs hM hgoM hz hmp hrow hlv hargs
  have hvs:vs = #[]:=by
   have:=hargs.1
   simpa [Tn] using this
  subst hvs
  have hle:=AV l
  have hnil:Lib.compact ([]:List Int)=[]:=by
   have:=AV ([]:List Int)
   exact List.eq_nil_of_length_eq_zero (Nat.le_zero.1 this)
  rcases hlv.2 ⟨0,0,[],false,false,false⟩ rfl rfl with⟨g,o',c,N,t,k0,k1,k2,k3,k4,k5⟩|⟨k0,hn0,A,k1⟩
  ·cases k0
   subst k1
   obtain⟨cs,h1,h2,h3⟩:=hrow
   simp only[List.length_append,cc]at h2
   have hN:N=cs.size:=by
    simp only[World.shape?,h1,Option.some.injEq,Prod.mk.injEq]at k5
    exact k5.2.symm
   have hone:(eI IntKind.i64).size=1:=rfl
   by_cases hl:l=[]
   ·subst hl
    refine (hC.2 _ c w).mono fun e w' ⟨he,hw⟩ =>?_
    subst hw
    rw[hnil]
    refine⟨_,he,⟨rfl,rfl,rfl,Nat.le_refl _,fun k _ _=>rfl⟩,trivial,?_⟩
    by_cases hcc:0<c∨pre.length=0
    ·obtain⟨k6,k7⟩:=k2 hcc
     exact .inl ⟨(g.1,o'),c,cs,rfl,.inr ⟨g,rfl,rfl⟩,h1,Nat.zero_le _,k4,by rw[hone]at *;omega,by rw[hone]at *;simp[ab];omega,fun j d hj=>by simp[ab]at hj⟩
    ·have:c=0:=by omega
     subst this
     exact .inr ⟨rfl,rfl,_,rfl⟩
   ·have hpos:0<l.length:=List.length_pos_iff.2 hl
    obtain⟨k6,k7⟩:=k2 (.inl (by omega))
    subst k6
    have hcell:∀j,j<l.length→cs.getD (g.2+(pre.length+j)) undef=.int .i64 (l.getD j 0):=by
     intro j hj
     have hd:(pre++(ab (eI .i64) l++post))[pre.length+j]? = some (.int .i64 (l.getD j 0)):=by
      rw[List.getElem?_append_right (by omega),Nat.add_sub_cancel_left,List.getElem?_append_left (by rw[cc];exact hj),iQ]
      simp[List.getD,hj]
     obtain⟨_,hp⟩:=h3 _ _ hd
     exact Qk hp
    have hH:Go.Sort.Holds (Value.int .i64) w g.1 (g.2+pre.length) l.toArray:=by
     intro j hj
     simp only[List.size_toArray]at hj
     refine⟨?_,by simp[World.frozen?,h1]⟩
     have:=bp h1 (j:=g.2+pre.length+j) (by omega)
     rw[this,Nat.add_assoc,hcell j hj]
     simp[List.getD,hj]
    refine (hC.1 g.1 (g.2+pre.length) c l w hH hlen k3).mono fun e w' ⟨he,q,hw⟩ =>?_
    subst hw
    have hdl:(Lib.compact l++List.replicate (l.length-(Lib.compact l).length) 0).length=l.length:=by simp;omega
    have hnew:(Go.Sort.putRow (Value.int .i64) (Go.Sort.ahead w q) g.1 (g.2+pre.length) (Lib.compact l++List.replicate (l.length-(Lib.compact l).length) 0).toArray).heap[g.1]? = some (.cells (Go.Sort.putCells (Value.int .i64) (g.2+pre.length) (Lib.compact l++List.replicate (l.length-(Lib.compact l).length) 0).toArray cs) ty (0,0)):=tl h1
    have hsz:(Go.Sort.putCells (Value.int .i64) (g.2+pre.length) (Lib.compact l++List.replicate (l.length-(Lib.compact l).length) 0).toArray cs).size=cs.size:=by simp[Go.Sort.putCells]
    refine⟨_,he,⟨rfl,rfl,rfl,by simp[Go.Sort.ahead],fun k hk hn =>?_⟩,trivial,.inl ⟨(g.1,g.2+pre.length),c,_,rfl,.inr ⟨g,rfl,rfl⟩,hnew,by omega,k4,?_,?_,fun j d hj =>?_⟩⟩
    ·exact kG fun e=>hn ⟨g,rfl,e⟩
    ·rw[hsz,hone];rw[hone]at k7;omega
    ·rw[hsz,cc];simp only;omega
    ·have hjl:=(List.getElem?_eq_some_iff.1 hj).1
     rw[cc]at hjl
     rw[iQ,Option.map_eq_some_iff]at hj
     obtain⟨z,hz,rfl⟩:=hj
     simp only
     rw[qS (by omega),hdl,if_pos (by omega)]
     have e1:g.2+pre.length+j-(g.2+pre.length)=j:=by omega
     have e2:(Lib.compact l++List.replicate (l.length-(Lib.compact l).length) 0).getD j 0=z:=by rw[List.getD_eq_getElem?_getD,List.getElem?_append_left hjl,hz];rfl
     rw[e1,e2]
     exact⟨rfl,.int _ _⟩
  ·subst k1
   have hl:l=[]:=List.eq_nil_of_length_eq_zero hn0
   subst hl
   refine (hC.2 _ 0 w).mono fun e w' ⟨he,hw⟩ =>?_
   subst hw
   rw[hnil]
   exact⟨_,he,⟨rfl,rfl,rfl,Nat.le_refl _,fun k _ _=>rfl⟩,trivial,.inr ⟨rfl,rfl,_,rfl⟩⟩
theorem ir (b:Nat) {ty:Nat} {fr:Nat×Nat} : ∀(vs:List Value) (o:Nat) (w:World) (arr:Array Value),w.heap[b]? = some (.cells arr ty fr)→o+vs.length≤arr.size →
  (w.setCells b o vs).os=w.os∧(w.setCells b o vs).tape=w.tape∧(w.setCells b o vs).output=w.output∧(w.setCells b o vs).heap.size=w.heap.size∧(∀k,k≠b→(w.setCells b o vs).heap[k]? = w.heap[k]?) ∧
  ∃arr',(w.setCells b o vs).heap[b]? = some (.cells arr' ty fr)∧arr'.size=arr.size∧∀j,arr'[j]? = if o≤j∧j<o+vs.length then vs[j-o]? else arr[j]?
 | [],o,w,arr,h,_=>⟨rfl,rfl,rfl,rfl,fun k _=>rfl,arr,h,rfl,fun j=>by rw[if_neg (by simp)]⟩
 | v::r,o,w,arr,h,hl=>by
  simp only[List.length_cons]at hl
  have h1:(w.setCell ⟨b,o,none⟩ v).heap[b]? = some (.cells (arr.setIfInBounds o v) ty fr):=by
   simp[World.setCell,Array.getElem?_modify,h]
  obtain⟨e1,e2,e3,e4,e5,arr',e6,e7,e8⟩:=ir b r (o+1) (w.setCell ⟨b,o,none⟩ v) _ h1 (by simp;omega)
  refine⟨e1,e2,e3,e4.trans (by simp[World.setCell]),fun k hk=>(e5 k hk).trans (by simp[World.setCell,Array.getElem?_modify,Ne.symm hk]),arr',e6,by simpa using e7,fun j =>?_⟩
  rw[e8 j,Array.getElem?_setIfInBounds]
  simp only[List.length_cons]
  by_cases h1:o+1≤j∧j<o+1+r.length
  ·rw[if_pos h1,if_pos (by omega)]
   have:j-o=(j-(o+1))+1:=by omega
   rw[this,List.getElem?_cons_succ]
  ·rw[if_neg h1]
   by_cases h2:o=j
   ·subst h2
    rw[if_pos rfl,if_pos (by omega),if_pos (by omega),Nat.sub_self]
    rfl
   ·rw[if_neg h2,if_neg (by omega)]
open Go.Shelf in
theorem Ph {P:Program} {ρ:Ren} (L:Lays2.n21 P ρ) {fn:Func} (hf:P.funcs[ρ.f 21]? = some fn) (hc:(fn.name == "runtime.NumGoroutine")=false∧fn.body.isNone=false):Qf P (ρ.f 21) (ρ.t 3,1,8) where
 callable:=⟨fn,hf,hc⟩
 pos:=Nat.one_pos
 calls w go go' u u' i n m cs cs' h1 h2 hne hl hl' ho ho' hi hm hmax:=by
  simp only[Nat.mul_one]at *
  obtain⟨g',c',arr',rfl,rfl,b1,b2,b3,b4,b5⟩:∃g c arr,go'=some g∧u'=.slice (some ⟨g.1,g.2,none⟩) m c∧w.heap[g.1]? = some (.cells arr (ρ.t 3) (0,0))∧c*1+g.2=arr.size∧m≤c∧c≤maxLen∧∀(j:Nat) x,cs'[j]? = some x→arr[g.2+j]? = some x:=by
   rcases h2 with⟨g,c,arr,k⟩|⟨_,rfl,_⟩
   ·exact⟨g,c,arr,by simpa using k⟩
   ·omega
  have hvs:∀(j:Nat) v,cs'[j]? = some v→w.cell? ⟨g'.1,g'.2+j,none⟩=some v:=fun j v hj=>by simp[World.cell?,b1,b5 j v hj]
  rcases h1 with⟨g,c,arr,rfl,rfl,a1,a2,a3,a4,a5⟩|⟨rfl,rfl,rfl,A,rfl⟩
  ·have hcs:∀(j:Nat) v,cs[j]? = some v→w.cell? ⟨g.1,g.2+j,none⟩=some v:=fun j v hj=>by simp[World.cell?,a1,a5 j v hj]
   have hfz:∀j,w.frozen? ⟨g.1,j,none⟩=false:=fun j=>by simp[World.frozen?,a1]
   have hbb:g.1≠g'.1:=hne g g' rfl rfl
   have hlt:g.1<w.heap.size:=(Array.getElem?_eq_some_iff.1 a1).1
   have hsp:∀j,j<n+m→n+m≤c→(w.cell? ⟨g.1,g.2+j,none⟩).isSome=true:=fun j hj hr=>by
    simp only[World.cell?,a1]
    rw[Array.getElem?_eq_getElem (by omega)]
    rfl
   by_cases hin:i=n
   ·subst hin
    have ht:cs.take i=cs:=List.take_of_length_le (by omega)
    have hd:cs.drop i=[]:=List.drop_eq_nil_of_le (by omega)
    rw[ht,hd,List.append_nil]
    by_cases hroom:i+m≤c
    ·refine (Any2.slices_Insert_int_end_room L g.1 g.2 i c g'.1 g'.2 m c' cs' w hm hroom (by unfold maxLen at a4;omega) hl' (fun j hj=>by have:=hsp (i+j) (by omega) hroom;rwa [← Nat.add_assoc]at this) (fun j _=>hfz _) hvs ho').mono fun e w' ⟨he,hw⟩ =>?_
     subst hw
     obtain⟨e1,e2,e3,e4,e5,arr2,e6,e7,e8⟩:=ir g.1 cs' (g.2+i) w arr a1 (by omega)
     refine⟨_,he,⟨e1,e2,e3,by omega,fun k hk hn=>e5 k (fun h=>hn ⟨g,rfl,h⟩)⟩,g,c,arr2,rfl,.inr ⟨g,rfl,rfl⟩,e6,hroom,a4,by omega,fun j x hj =>?_⟩
     rw[e8]
     by_cases hj2:j<i
     ·rw[if_neg (by omega)]
      rw[List.getElem?_append_left (by omega)]at hj
      exact a5 j x hj
     ·have hjl:=(List.getElem?_eq_some_iff.1 hj).1
      rw[List.length_append]at hjl
      rw[List.getElem?_append_right (by omega)]at hj
      rw[if_pos (by omega)]
      rw[← hj];congr 1;omega
    ·refine (Any2.slices_Insert_int_end_grow L (some ⟨g.1,g.2,none⟩) i c g'.1 g'.2 m c' cs cs' w hm a3 (by omega) hmax hl hl' (fun h=>by cases h) (fun a ha j v hj=>by cases ha;rw[Addr.add_lit];exact hcs j v hj) hvs ho').mono fun e w' ⟨he,hw⟩ =>?_
     subst hw
     have hge:=grownCap_ge w (i+m) c (ρ.t 3)
     refine⟨_,he,cl.pJ ((Below.refl _ w).drew.alloc (by simp) _),(w.heap.size,0),_,_,rfl,.inl (Nat.le_refl _),heap_alloc_new w.drew _,hge,grownCap_le_maxLen _ _ _ _ (by unfold maxLen;omega),?_,fun j x hj =>?_⟩
     ·simp[Builtin.zeroCells,Value.cells];omega
     ·have hjl:=(List.getElem?_eq_some_iff.1 hj).1
      rw[Nat.zero_add,Array.getElem?_append_left (by simpa using hjl)]
      simpa using hj
   ·have hin':i<n:=by omega
    by_cases hroom:n+m≤c
    ·refine (Any2.slices_Insert_int_shift L g.1 g.2 n c i g'.1 g'.2 m c' cs cs' w hin' hm hroom (by unfold maxLen at a4;omega) (Ne.symm hbb) hl hl' hcs (fun j hj=>hsp j hj hroom) (fun j _=>hfz _) hvs ho ho' (ρ.t 3) (ρ.t 3) arr'.size arr.size (by simp[World.shape?,b1]) (by simp[World.shape?,a1]) (by omega) (by simp[World.frozen?,b1]) (by simp[World.frozen?,b1])).mono fun e w' ⟨he,hw⟩ =>?_
     subst hw
     obtain⟨e1,e2,e3,e4,e5,arr2,e6,e7,e8⟩:=ir g.1 (cs.drop i) (g.2+(i+m)) w.drew arr a1 (by simp;omega)
     obtain⟨f1,f2,f3,f4,f5,arr3,f6,f7,f8⟩:=ir g.1 cs' (g.2+i) _ arr2 e6 (by omega)
     refine⟨_,he,⟨f1.trans e1,f2.trans e2,f3.trans e3,by rw[f4,e4];exact Nat.le_refl _,fun k hk hn=>(f5 k (fun h=>hn ⟨g,rfl,h⟩)).trans (e5 k (fun h=>hn ⟨g,rfl,h⟩))⟩,g,c,arr3,rfl,.inr ⟨g,rfl,rfl⟩,f6,hroom,a4,by omega,fun j x hj =>?_⟩
     have hjl:=(List.getElem?_eq_some_iff.1 hj).1
     simp only[List.length_append,List.length_take,List.length_drop]at hjl
     rw[f8,e8]
     by_cases hj1:j<i
     ·rw[List.getElem?_append_left (by rw[List.length_take];omega),List.getElem?_take,if_pos hj1]at hj
      rw[if_neg (by omega),if_neg (by simp;omega)]
      exact a5 j x hj
     ·rw[List.getElem?_append_right (by rw[List.length_take];omega),List.length_take,Nat.min_eq_left (by omega)]at hj
      by_cases hj2:j<i+m
      ·rw[List.getElem?_append_left (by omega)]at hj
       rw[if_pos (by omega),← hj];congr 1;omega
      ·rw[List.getElem?_append_right (by omega)]at hj
       rw[if_neg (by omega),if_pos (by simp;omega),← hj];congr 1;omega
    ·refine (Any2.slices_Insert_int_grow L g.1 g.2 n c i g'.1 g'.2 m c' cs cs' w hin' hm a3 (by omega) hmax hl hl' hcs hvs ho ho').mono fun e w' ⟨he,hw⟩ =>?_
     subst hw
     have hge:=grownCap_ge w (n+m) c (ρ.t 3)
     generalize hG:grownCap w (n+m) c (ρ.t 3)=G at *
     generalize hR:((cs.take i).toArray++Builtin.zeroCells (Value.int .i64 0).cells (n+m-i)++Builtin.zeroCells (Value.int .i64 0).cells (G-(n+m)))=R
     have hRs:R.size=G:=by subst hR;simp[Builtin.zeroCells,Value.cells];omega
     have hR0:∀j,j<i→R[j]? = cs[j]?:=fun j hj=>by
      subst hR
      rw[Array.append_assoc,Array.getElem?_append_left (by simp;omega)]
      simp[List.getElem?_take,hj]
     have hw0:(w.alloc (.cells R (ρ.t 3))).drew.heap[w.heap.size]? = some (.cells R (ρ.t 3) (0,0)):=heap_alloc_new w _
     obtain⟨e1,e2,e3,e4,e5,arr2,e6,e7,e8⟩:=ir w.heap.size cs' i _ R hw0 (by omega)
     obtain⟨f1,f2,f3,f4,f5,arr3,f6,f7,f8⟩:=ir w.heap.size (cs.drop i) (i+m) (((w.alloc (.cells R (ρ.t 3))).drew.setCells w.heap.size i cs').drew) arr2 e6 (by simp;omega)
     refine⟨_,he,⟨f1.trans e1,f2.trans e2,f3.trans e3,?_,fun k hk hn =>?_⟩,(w.heap.size,0),G,arr3,rfl,.inl (Nat.le_refl _),f6,hge,hG ▸ grownCap_le_maxLen _ _ _ _ (by unfold maxLen;omega),by simp only;omega,fun j x hj =>?_⟩
     ·rw[f4]
      show _≤((w.alloc (.cells R (ρ.t 3))).drew.setCells w.heap.size i cs').heap.size
      rw[e4]
      show _≤(w.alloc (.cells R (ρ.t 3))).heap.size
      simp
     ·rw[f5 k (by omega)]
      show ((w.alloc (.cells R (ρ.t 3))).drew.setCells w.heap.size i cs').heap[k]? = _
      rw[e5 k (by omega)]
      exact Below.heap_alloc w _ k hk
     ·have hjl:=(List.getElem?_eq_some_iff.1 hj).1
      simp only[List.length_append,List.length_take,List.length_drop]at hjl
      rw[Nat.zero_add,f8,e8]
      by_cases hj1:j<i
      ·rw[List.getElem?_append_left (by rw[List.length_take];omega),List.getElem?_take,if_pos hj1]at hj
       rw[if_neg (by omega),if_neg (by omega),hR0 j hj1,hj]
      ·rw[List.getElem?_append_right (by rw[List.length_take];omega),List.length_take,Nat.min_eq_left (by omega)]at hj
       by_cases hj2:j<i+m
       ·rw[List.getElem?_append_left (by omega)]at hj
        rw[if_neg (by omega),if_pos (by omega),← hj]
       ·rw[List.getElem?_append_right (by omega)]at hj
        rw[if_pos (by simp;omega),← hj];congr 1;omega
  ·have hi0:i=0:=by omega
   subst hi0
   refine (Any2.slices_Insert_int_end_grow L A 0 0 g'.1 g'.2 m c' [] cs' w hm (Nat.le_refl _) (by omega) (by omega) rfl hl' (fun _=>rfl) (fun a ha j v hj=>by simp at hj) hvs ho').mono fun e w' ⟨he,hw⟩ =>?_
   subst hw
   have hge:=grownCap_ge w (0+m) 0 (ρ.t 3)
   refine⟨_,he,cl.pJ ((Below.refl _ w).drew.alloc (by simp) _),(w.heap.size,0),_,_,rfl,.inl (Nat.le_refl _),heap_alloc_new w.drew _,hge,grownCap_le_maxLen _ _ _ _ (by unfold maxLen;omega),?_,fun j x hj =>?_⟩
   ·have hge':=hge
    simp only[Nat.zero_add]at hge'
    simp[Builtin.zeroCells,Value.cells];omega
   ·simp only[List.take_nil,List.drop_nil,List.nil_append,List.append_nil]at hj
    have hjl:=(List.getElem?_eq_some_iff.1 hj).1
    rw[Nat.zero_add,Array.getElem?_append_left (by simpa using hjl)]
    simpa using hj
end Go.Proofs.YtpkahnkoecbndaaGreatDoor.Am
namespace Go.Proofs.YtpkahnkoecbndaaGreatDoor.Am
open Go.RowKit Go.Shelf Go.Proofs.YtpkahnkoecbndaaGreatDoor.P
set_option linter.unusedSimpArgs false
set_option linter.unusedVariables false
attribute [local go_sem] Oper.semAt_some
def upto (f:Nat→Int) (k:Nat):List Int:=(List.range k).map f
theorem FP (f:Nat→Int) (k:Nat):upto f (k+1)=upto f k++[f k]:=by simp[upto,List.range_succ]
theorem KM (f:Nat→Int) (k:Nat):(upto f k).length=k:=by simp[upto]
theorem Tb (zs:List Int):upto (fun j=>zs[j]?.getD 0) zs.length=zs:=by
 apply List.ext_getElem
 ·simp[upto]
 ·intro i h1 h2
  simp[upto,h2]
theorem P4 (zs:List Int) {k:Nat} (hk:k≤zs.length):upto (fun j=>zs[j]?.getD 0) k=zs.take k:=by
 apply List.ext_getElem
 ·simp[upto,hk]
 ·intro i h1 h2
  have:i<zs.length:=by simp[upto]at h1;omega
  simp[upto,this]
set_option maxRecDepth 100000 in
set_option maxHeartbeats 2000000 in
theorem MF (F:Fence) (n:Nat) (h7:F.fn 156) (hro:F.round=none) (hn:1≤n) (l Bs Bo n₀ b off len cap:Nat) (zs:List Int) (hreach:len*8≤140737488351232) (hb:b<n₀) (J Jx:List Int→World→Prop)
  (hY:∀pre x W,J pre W→pre.length<len→YieldAt F (n-1) Tryz.prog l #[.int .i64 x] W fun e W' =>
   (e=.returned (.bool true)∧J (pre++[x]) W'∧Below n₀ W W')∨(e=.returned (.bool false)∧Jx (pre++[x]) W'))
  (W:World) (hBs:W.cell? ⟨Bs,Bo,none⟩=some (.slice (some ⟨b,off,none⟩) len cap)) (hc:∀j,j<len→W.cell? ⟨b,off+j,none⟩=some (.int .i64 (zs[j]?.getD 0))) (h0:J [] W) :
  CallsIn F n Tryz.prog 156 #[.func (.yield l) #[] #[],.pointer (some ⟨Bs,Bo,none⟩)] W fun e W'=>(∃v,e=.returned v) ∧
   ((∃ys,ys=upto (fun j=>zs[j]?.getD 0) len∧J ys W')∨(∃pre,(∃k,k≤len∧pre=upto (fun j=>zs[j]?.getD 0) k)∧Jx pre W')):=by
 refine callsIn_of_wp Tryz.func156 rfl h7 ?_ hro
 simp only[Tryz.ntmps156,List.size_toArray,List.length_cons,List.length_nil,Nat.reduceAdd,Nat.reduceSub,Array.replicate_succ,Array.replicate_zero,List.push_toArray,List.append_toArray,List.nil_append,List.cons_append]
 gi_wp2
 gi_loopw [7] (fun i wr=>∃k:Nat,k≤len∧i=.int .i64 k∧J (upto (fun j=>zs[j]?.getD 0) k) wr∧Below n₀ W wr)
  (fun i _=>len-(intOf i).toNat)
 case atStart=>exact⟨0,Nat.zero_le _,rfl,h0,Below.refl _ _⟩
 case round =>
  obtain⟨k,hk,rfl,hJs,hnx⟩:=hrel
  have hcx:k<len→wr.cell? ⟨b,off+k,none⟩=some (.int .i64 (zs[k]?.getD 0)):=fun h=>(hnx.cell (p:=⟨b,off+k,none⟩) hb).trans (hc k h)
  by_cases hlt:k<len
  ·obtain⟨fn,tmps,assign,body,hy,hR⟩:=hY _ (zs[k]?.getD 0) wr hJs (by rw[KM];exact hlt)
   have hcx':=hcx hlt
   gi_wp2
   refine hR.mono ?_
   rintro e W3 (⟨rfl,hJ3,hk3⟩|⟨rfl,hJx3⟩)
   ·gi_wp2
    go_roundw
    case rel=>exact⟨k+1,by omega,by simp,by rw[FP];exact hJ3,hnx.trans hk3⟩
    case measure=>simp[intOf];omega
   ·gi_wp2
    refine bodyPost_ret (results_none rfl _ _ _) rfl ?_
    exact⟨⟨_,rfl⟩,.inr ⟨_,⟨k+1,by omega,(FP _ _).symm⟩,hJx3⟩⟩
  ·obtain rfl:k=len:=by omega
   gi_wp2
   go_end0
   exact⟨⟨_,rfl⟩,.inl ⟨_,rfl,hJs⟩⟩
set_option maxRecDepth 100000 in
set_option maxHeartbeats 1000000 in
theorem CN (F:Fence) (n:Nat) (h7:F.fn 156) (hro:F.round=none) (l Bs Bo cap:Nat) (A:Option Addr) (J:List Int→World→Prop) (W:World) (hBs:W.cell? ⟨Bs,Bo,none⟩=some (.slice A 0 cap)) (h0:J [] W) :
  CallsIn F n Tryz.prog 156 #[.func (.yield l) #[] #[],.pointer (some ⟨Bs,Bo,none⟩)] W fun e W'=>(∃v,e=.returned v)∧J [] W':=by
 refine callsIn_of_wp Tryz.func156 rfl h7 ?_ hro
 simp only[Tryz.ntmps156,List.size_toArray,List.length_cons,List.length_nil,Nat.reduceAdd,Nat.reduceSub,Array.replicate_succ,Array.replicate_zero,List.push_toArray,List.append_toArray,List.nil_append,List.cons_append]
 gi_wp2
 gi_loopw [7] (fun i wr=>i=.int .i64 0∧J [] wr) (fun _ _=>0)
 case atStart=>exact⟨rfl,h0⟩
 case round =>
  obtain⟨rfl,hJs⟩:=hrel
  gi_wp2
  go_end0
  exact⟨⟨_,rfl⟩,hJs⟩
def Ints (n₀:Nat) (W:World) (sv:Value) (zs:List Int):Prop :=
 (∃A c,sv=.slice A 0 c∧zs=[])∨∃b off cap,sv=.slice (some ⟨b,off,none⟩) zs.length cap∧b<n₀∧∀j,j<zs.length→W.cell? ⟨b,off+j,none⟩=some (.int .i64 (zs[j]?.getD 0))
theorem Ints.below {n₀:Nat} {A B:World} (h:Below n₀ A B) {sv:Value} {zs:List Int} : Ints n₀ A sv zs→Ints n₀ B sv zs
 | .inl e =>.inl e
 | .inr ⟨b,off,cap,e,hb,hc⟩ =>.inr ⟨b,off,cap,e,hb,fun j hj=>(h.cell (p:=⟨b,off+j,none⟩) hb).trans (hc j hj)⟩
theorem Hm (F:Fence) (n:Nat) (h7:F.fn 156) (hro:F.round=none) (hn:1≤n) (Bs Bo n₀:Nat) (sv:Value) (zs:List Int) (hreach:zs.length*8≤140737488351232) (w:World) (hBs:Bs<w.heap.size) (hn₀:n₀≤w.heap.size)
  (hc:w.cell? ⟨Bs,Bo,none⟩=some sv) (hI:Ints n₀ w sv zs) :
  SeqStopsK F n Tryz.prog 156 #[.pointer (some ⟨Bs,Bo,none⟩)] (fun x:Int=>#[Value.int .i64 x]) (Below n₀) (fun ys=>ys=zs) (fun pre=>pre <+: zs) zs.length w:=fun l J Jx W hW _ _ hY h0=>by
 have hc':=(hW.cell (p:=⟨Bs,Bo,none⟩) hBs).trans hc
 rcases hI.below (hW.mono hn₀) with⟨A,c,rfl,rfl⟩|⟨b,off,cap,rfl,hb,hcs⟩
 ·exact (CN F n h7 hro l Bs Bo _ _ J W hc' h0).mono fun e W' ⟨he,hj⟩=>⟨he,.inl ⟨_,rfl,hj⟩⟩
 ·refine (MF F n h7 hro hn l Bs Bo n₀ b off zs.length cap zs hreach hb J Jx hY W hc' hcs h0).mono ?_
  rintro e W' ⟨he,⟨ys,rfl,hj⟩|⟨pre,⟨k,hk,rfl⟩,hj⟩⟩
  ·exact⟨he,.inl ⟨_,Tb zs,hj⟩⟩
  ·exact⟨he,.inr ⟨_,by rw[P4 zs hk];exact List.take_prefix _ _,hj⟩⟩
theorem Ws:(Tryz.prog.info? 3).map (fun i=>(i.zero,i.size,i.bytes))=some (some (.int .i64 0),1,8):=by kernel_rfl
set_option maxRecDepth 100000 in
set_option maxHeartbeats 2000000 in
theorem appendSeq_in (F:Fence) (n:Nat) (h3:F.fn 176) (h7:F.fn 156) (hro:F.round=none) (hn:3≤n) (Bs Bo:Nat) (sv:Value) (zs:List Int) (hreach:zs.length*8≤140737488351232) (w:World)
  (hBs:Bs<w.heap.size) (hc:w.cell? ⟨Bs,Bo,none⟩=some sv) (hI:Ints w.heap.size w sv zs) :
  CallsIn F n Tryz.prog 176 #[.slice none 0 0,.func (.func 156) #[] #[.pointer (some ⟨Bs,Bo,none⟩)]] w fun e W'=>∃v,e=.returned v∧W'.ownsRow w.heap.size 3 1 v zs.length (zs.map (Value.int .i64))∧(v=.slice none 0 0↔zs=[])∧Below w.heap.size w W':=by
 have h1:1≤n:=by omega
 obtain⟨i0,hi,hz0,hz1,hz2⟩:=info_parts Ws
 refine callsIn_of_wp_marks Tryz.func176 rfl h3 ?_ hro
 simp only[Tryz.ntmps176,List.size_toArray,List.length_cons,List.length_nil,Nat.reduceAdd,Nat.reduceSub,Array.replicate_succ,Array.replicate_zero,List.push_toArray,List.append_toArray,List.nil_append,List.cons_append]
 gi_wp2
 have bO:=Boxed.new w 25 (.slice none 0 0)
 have hB0:Below w.heap.size w (w.alloc (.cells #[.slice none 0 0] 25)):=(Below.refl _ w).alloc (Nat.le_refl _) _
 refine wpIn_rangeFunc_ownG hro h1 (gf:=156) (lb:=#[.pointer (some ⟨Bs,Bo,none⟩)]) rfl h7 (enters_of Tryz.func156 (by kernel_rfl) rfl)
  (Hm F (n-1) h7 hro (by omega) Bs Bo w.heap.size sv zs hreach _ (by simp;omega) (by simp) ((hB0.cell (p:=⟨Bs,Bo,none⟩) hBs).trans hc) (hI.below hB0)) belowK_t (belowK_b (by simp)) (Below.refl _ _) (fun _=>rfl)
  (fun pre W=>(∃v,Boxed W w.heap.size 25 v∧W.ownsRow w.heap.size 3 1 v pre.length (pre.map (Value.int .i64))∧(v=.slice none 0 0↔pre=[]))∧Below w.heap.size w W)
  (fun _ _ _=>False)
  (OwnFrom.and (Own.from (holdsRow_own w.heap.size w.heap.size 25 3 1 (fun pre=>pre.length) (fun pre=>pre.map (Value.int .i64)) (fun pre v=>v=.slice none 0 0↔pre=[])) _) (ownFrom_below (Nat.le_refl _) (by simp)))
  (fun _ _ _ _ _ hs _ _=>hs)
  ⟨⟨_,bO,World.ownsRow_nil _ _ _ _,by simp⟩,hB0⟩
  (fun x=>{ tmps:=#[.slice none 0 0,.func (.func 156) #[] #[.pointer (some ⟨Bs,Bo,none⟩)],.pointer (some ⟨w.heap.size,0,none⟩),undef,.slice none 0 0,.int .i64 x,.func (.func 156) #[] #[.pointer (some ⟨Bs,Bo,none⟩)],.int .i64 x,undef,undef,undef,undef,undef],defers:=[] }) ?assign ?body ?done ?stop
 case assign =>
  intro l x W K hK
  gi_wp2
  exact hK
 case body =>
  rintro l pre x W ⟨⟨v,hv,hrow,hnil⟩,hB⟩ hlt
  have hc:=hv.cell
  gi_wp2_with (gi_at_builtin;refine wpListIn_append_own _ rfl _ _ 25 rfl w.heap.size 3 i0 (.int .i64 0) 1 8 Tryz.underlying25 hi hz0 hz1 hz2 rfl (by decide) _ _ _ rfl (hrow.alloc _) ⟨W.heap.size,0,none⟩ 1 1 [.int .i64 x] rfl rfl (cell_one_new _ _ _) (by simp[Value.oneCell']) (by unfold maxLen;omega) (by omega) (by have:=hB.size;simp;omega) ?_;intro v' w1 hown' hgrow _;obtain⟨g',cap',rfl⟩:=ownsRow_succ hown';obtain⟨hv1,hv2,hr2,hk2,hb2⟩:=hv.appended (by decide) hrow hB.size (Nat.le_refl _) hown' hgrow;have hc1:=hv1.cell;have hf1:=hv1.frozen)
  exact⟨hk2.from _,hb2,⟨_,hv2,by simpa using hr2,by simp⟩,hB.trans hb2⟩
 case done =>
  rintro D ys W hD rfl ⟨⟨v,hv,hrow,hnil⟩,hB⟩ hK
  have hc:=hv.cell
  gi_wp2
  refine⟨by simp,.inl ⟨_,_,rfl,run_takeDeferred hK,?_⟩⟩
  exact⟨_,results_tmp rfl _ _ _,v,rfl,ownsRow_putObj hrow _ hK rfl,hnil,hB.trans (belowK_b (w:=w) (Nat.le_refl _) W D _ _ (by simp at hD;omega) hK rfl rfl)⟩
 case stop =>
  rintro D c pre W _ _ h _
  exact h.elim
set_option maxHeartbeats 1000000 in
theorem collect_in (F:Fence) (n:Nat) (h2:F.fn 155) (h3:F.fn 176) (h7:F.fn 156) (hro:F.round=none) (hn:4≤n) (Bs Bo:Nat) (sv:Value) (zs:List Int) (hreach:zs.length*8≤140737488351232) (w:World)
  (hBs:Bs<w.heap.size) (hc:w.cell? ⟨Bs,Bo,none⟩=some sv) (hI:Ints w.heap.size w sv zs) :
  CallsIn F n Tryz.prog 155 #[.func (.func 156) #[] #[.pointer (some ⟨Bs,Bo,none⟩)]] w fun e W'=>∃v,e=.returned v∧W'.ownsRow w.heap.size 3 1 v zs.length (zs.map (Value.int .i64))∧(v=.slice none 0 0↔zs=[])∧Below w.heap.size w W':=by
 have h1:1≤n:=by omega
 refine callsIn_of_wp Tryz.func155 rfl h2 ?_ hro
 simp only[Tryz.ntmps155,List.size_toArray,List.length_cons,List.length_nil,Nat.reduceAdd,Nat.reduceSub,Array.replicate_succ,Array.replicate_zero,List.push_toArray,List.append_toArray,List.nil_append,List.cons_append]
 gi_wp2_with (gi_at_call 176;refine (appendSeq_in F (n-1) h3 h7 hro (by omega) Bs Bo sv zs hreach _ hBs hc hI).mono ?_;rintro e w' ⟨v,rfl,hrow,hnil,hb⟩)
 go_ret
 exact⟨v,rfl,hrow,hnil,hb⟩
theorem Uj (a:Option Addr) (len cap:Nat) (w:World) :
  Calls Tryz.prog 116 #[.slice a len cap] w fun e w'=>e=.returned (.func (.func 156) #[] #[.pointer (some ⟨w.heap.size,0,none⟩)])∧w'=w.alloc (.cells #[.slice a len cap] 25):=by
 go_enter Tryz.func116,Tryz.ntmps116
 go_wp2
 go_ret
 exact⟨rfl,rfl⟩
set_option maxHeartbeats 1000000 in
theorem Ub (Bs Bo:Nat) (sv:Value) (zs:List Int) (hreach:zs.length*8≤140737488351232) (w:World) (hBs:Bs<w.heap.size) (hc:w.cell? ⟨Bs,Bo,none⟩=some sv) (hI:Ints w.heap.size w sv zs) :
  Calls Tryz.prog 115 #[.func (.func 156) #[] #[.pointer (some ⟨Bs,Bo,none⟩)]] w fun e w'=>∃v,e=.returned v∧Below w.heap.size w w' ∧
   ((zs=[]∧v=.slice none 0 0)∨∃g cap cs,v=.slice (some ⟨g,0,none⟩) zs.length cap∧w.heap.size≤g∧w'.heap[g]? = some (.cells cs 3 (0,0))∧zs.length≤cap∧cap≤maxLen∧cs.size=cap∧∀j,j<zs.length→cs.getD j undef=.int .i64 ((fY zs).getD j 0)):=by
 refine (callsIn_wide (n:=6)).1 ?_
 have hN:(1:Nat)≤6:=by omega
 have cC:=collect_in Fence.wide 5 trivial trivial trivial rfl (by omega) Bs Bo sv zs hreach w hBs hc hI
 refine callsIn_of_wp Tryz.func115 rfl trivial ?_ rfl
 simp only[Tryz.ntmps115,List.size_toArray,List.length_cons,List.length_nil,Nat.reduceAdd,Nat.reduceSub,Array.replicate_succ,Array.replicate_zero,List.push_toArray,List.append_toArray,List.nil_append,List.cons_append]
 have hf1:Fence.wide.fn 155:=trivial
 have hf2:Fence.wide.fn 69:=trivial
 have cS:Qm Tryz.prog 69:=fun blk off cap zs w hH hb hl=>Any.slices_Sort_int Tryz.Gv blk off cap zs w hH hb hl
 by_cases hz:zs=[]
 ·subst hz
  gi_wp2_with (first
   | (gi_at_call 155;refine cC.mono ?_;clear cC;rintro e w' ⟨v,rfl,hrow,hnil,hb⟩;obtain rfl:v=.slice none 0 0:=hnil.2 rfl)
   | (gi_at_call 69;refine (callsIn_wide.2 (Any.slices_Sort_int_none Tryz.Gv _ _ _)).mono ?_;rintro e2 w2 ⟨rfl,rfl⟩))
  go_ret
  first|exact⟨_,rfl,hb,.inl rfl⟩|exact⟨_,rfl,hb,.inl ⟨rfl,rfl⟩⟩
 ·gi_wp2_with (gi_at_call 155;refine cC.mono ?_;clear cC;rintro e w' ⟨v,rfl,hrow,hnil,hb⟩;obtain⟨g,cap,cur,rfl,k1,k2,k3,k4,k5,k6⟩:∃g cap cur,v=.slice (some ⟨g,0,none⟩) zs.length cap∧w.heap.size≤g∧w'.heap[g]? = some (.cells cur 3 (0,0))∧zs.length≤cap∧cap≤maxLen∧cur.size=cap*1∧cur.toList.take (zs.length*1)=zs.map (Value.int .i64):=hrow.2.resolve_left (fun hv=>hz (hnil.1 hv.1)))
  rw[Nat.mul_one]at k5 k6
  have hcur:∀j,j<zs.length→cur[j]? = some (.int .i64 (zs.getD j 0)):=by
   intro j hj
   have:(cur.toList.take zs.length)[j]? = (zs.map (Value.int .i64))[j]?:=by rw[k6]
   rw[List.getElem?_take,if_pos hj,List.getElem?_map,Array.getElem?_toList]at this
   rw[this]
   simp[List.getD,hj]
  have hH:Go.Sort.Holds (Value.int .i64) w' g 0 zs.toArray:=by
   intro j hj
   simp only[List.size_toArray]at hj
   refine⟨?_,by simp[World.frozen?,k2]⟩
   simp only[World.cell?,k2,Nat.zero_add]
   rw[hcur j hj]
   simp[List.getD,hj]
  have hlt:g<w'.heap.size:=(Array.getElem?_eq_some_iff.1 k2).1
  gi_wp2_with (gi_at_call 69;refine (callsIn_wide.2 (cS g 0 cap zs w' hH hlt (by omega))).mono ?_;rintro e2 w2 ⟨rfl,q,os,rfl⟩)
  go_ret
  refine⟨_,rfl,?_,.inr ⟨g,cap,Go.Sort.putCells (Value.int .i64) 0 (fY zs).toArray cur,rfl,k1,?_,k3,k4,?_,fun j hj =>?_⟩⟩
  ·refine⟨hb.os,hb.tape,hb.output,Nat.le_trans hb.size (by simp[Go.Sort.grow,Go.Sort.ahead]),fun k hk =>?_⟩
   have hk':k<w'.heap.size:=Nat.lt_of_lt_of_le hk hb.size
   rw[Go.Sort.heap_grow_old _ _ (by simpa [Go.Sort.ahead] using hk'),kG (by omega)]
   exact hb.block k hk
  ·rw[Go.Sort.heap_grow_old _ _ (by simpa [Go.Sort.ahead] using hlt)]
   exact tl k2
  ·simp[Go.Sort.putCells,k5]
  ·rw[qS (by omega),if_pos (by rw[fp];omega),Nat.sub_zero]
theorem P5:bM Tryz.prog 116 (eN (dR (iI (eI .i64))) Ah (fun r =>.clean (.clo 156 0 [.ip [.sl false false r.length (ab (eI .i64) r)]]))) where
 callable:=⟨_,Tryz.func116,by kernel_rfl,by kernel_rfl⟩
 calls lent ds rk out hg:=by
  obtain⟨rfl,rfl,l,r,rfl,hr,rfl⟩:=pF hg
  cases hr
  intro w M vs hM hargs
  have hsz:vs.size=1:=hargs.size
  rw[MH hsz]
  have hu:=hargs.at_ 0 _ rfl
  generalize vs.getD 0 undef=u at *
  have hu':RP w M (.sl false false l.length (ab (eI .i64) l)) u:=hu
  obtain⟨A,c,rfl,-⟩:=FW hu'
  refine (Uj A l.length c w).mono fun e w' ⟨he,hw⟩ =>?_
  subst hw
  have hb:Below w.heap.size w (w.alloc (.cells #[.slice A l.length c] 25)):=(Below.refl _ w).alloc (Nat.le_refl _) _
  have hk:∀b,b<w.heap.size→¬M b→b<(w.alloc (.cells #[.slice A l.length c] 25)).heap.size∧¬M b∧(w.alloc (.cells #[.slice A l.length c] 25)).heap[b]? = w.heap[b]?:=fun b h1 h2=>⟨by simp;omega,h2,hb.block b h1⟩
  refine⟨_,he,hb,RP.clo _ 0 _ [.pointer (some ⟨w.heap.size,0,none⟩)] rfl fun j x hj =>?_⟩
  cases j with
  | succ j=>simp at hj
  | zero =>
   simp only[List.getElem?_cons_zero,Option.some.injEq]at hj
   subst hj
   refine RP.ip _ ⟨w.heap.size,0,none⟩ (fun _ =>.slice A l.length c) (fun _=>⟨w.heap.size,0,rfl,by simp,fun h=>by have:=hM _ h;omega,fun j hj =>?_⟩) (fun j x hj =>?_) (fun x hx =>?_)
   ·simp only[List.length_cons,List.length_nil]at hj
    have:j=0:=by omega
    subst this
    exact (bp (heap_alloc_new w _) (j:=0) (by simp)).trans rfl
   ·cases j with
    | succ j=>simp at hj
    | zero =>
     simp only[List.getElem?_cons_zero,Option.some.injEq]at hj
     subst hj
     exact hu'.keep hk
   ·simp only[List.mem_singleton]at hx
    subst hx
    rfl
theorem PV:bM Tryz.prog 115 (eN (dR (Qn 156 0 (dR (Qo (pQ (eI .i64)))))) xa (fun r =>.fresh 3 1 r.length (ab (eI .i64) r))) where
 callable:=⟨_,Tryz.func115,by kernel_rfl,by kernel_rfl⟩
 calls lent ds rk out hg:=by
  obtain⟨rfl,rfl,l,r,rfl,hr,rfl⟩:=pF hg
  unfold xa at hr
  split at hr
  rotate_left
  ·cases hr
  rename_i hreach
  cases hr
  intro w M vs hM hargs
  have hsz:vs.size=1:=hargs.size
  rw[MH hsz]
  have hu:=hargs.at_ 0 _ rfl
  generalize vs.getD 0 undef=u at *
  have hu':RP w M (.clo 156 0 [.ip [.sl false false l.length (ab (eI .i64) l)]]) u:=hu
  cases hu' with
  | clo f kk xs us h1 h2 =>
   have hp:=h2 0 _ rfl
   have hus:us=[us.getD 0 undef]:=by
    match us,h1 with
    | [x],_=>rfl
   rw[hus]
   generalize us.getD 0 undef=q at *
   cases hp with
   | ip xs ad us2 h6 h7 h8 =>
    obtain⟨b,o,rfl,hb,hMb,hcell⟩:=h6 (by simp)
    have hcell0:=hcell 0 (by simp)
    rw[Nat.add_zero]at hcell0
    have hs:=h7 0 _ rfl
    have hI:Ints w.heap.size w (us2 0) l:=by
     obtain⟨A,c,hA,k1,k2,k3,k4⟩:=FW hs
     rw[hA]
     by_cases hl:l=[]
     ·subst hl;exact .inl ⟨A,c,rfl,rfl⟩
     ·obtain⟨b',o',rfl,hb',hM',hc'⟩:=k4 hl
      exact .inr ⟨b',o',c,rfl,hb',fun j hj=>by rw[hc' j hj];simp[List.getD]⟩
    refine (Ub b o (us2 0) l hreach w hb hcell0 hI).mono fun e w' ⟨v,he,hbw,hv⟩ =>?_
    refine⟨v,he,hbw,?_⟩
    rcases hv with⟨rfl,rfl⟩|⟨g,cap,cs,rfl,k1,k2,k3,k4,k5,k6⟩
    ·refine .inr ⟨?_,?_,none,rfl⟩
     ·rw[yl];rfl
     ·rw[yl];rfl
    ·refine .inl ⟨(g,0),cap,cs,by rw[fp],.inl k1,k2,by rw[fp];exact k3,k4,by simp only;omega,by rw[cc,fp];simp only;omega,fun j d hj =>?_⟩
     have hjl:=(List.getElem?_eq_some_iff.1 hj).1
     rw[cc,fp]at hjl
     rw[iQ,Option.map_eq_some_iff]at hj
     obtain⟨z,hz,rfl⟩:=hj
     simp only[Nat.zero_add]
     rw[k6 j hjl]
     have:(fY l).getD j 0=z:=by simp[List.getD,hz]
     rw[this]
     exact⟨rfl,.int _ _⟩
end Go.Proofs.YtpkahnkoecbndaaGreatDoor.Am
namespace Go.Proofs.YtpkahnkoecbndaaGreatDoor.Am
open Go.RowKit Go.Proofs.YtpkahnkoecbndaaGreatDoor.P Go.Shelf
set_option linter.unusedSimpArgs false
set_option linter.unusedVariables false
theorem U4:(Tryz.prog.info? 150).map (·.size)=some 2:=by kernel_rfl
theorem Wz:liesAt Tryz.prog Tryz.prog.depth 150 (2 / Tryz.prog.cellsOf 150) 0 150 1=true:=by kernel_rfl
theorem Vv:(Tryz.prog.info? 5).map (fun i=>(i.zero,i.size,i.bytes))=some (some (.int .u8 0),1,1):=by kernel_rfl
set_option maxRecDepth 100000 in
theorem TB (b:Nat) (w:World) (h0:w.cell? ⟨b,0,none⟩=some (.pointer (some ⟨b,0,none⟩))) :
  Calls Tryz.prog 160 #[.pointer (some ⟨b,0,none⟩)] w fun e w'=>e=.returned (.tuple #[])∧w'=w:=by
 obtain⟨j,hj,_⟩:=Option.map_eq_some_iff.1 U4
 go_enter Tryz.func160,Tryz.ntmps160
 go_wp2
 rw[Lib.run_neq_ptr_same w _ Tryz.underlying147 hj]
 go_wp2
 go_end0
 exact⟨rfl,rfl⟩
set_option maxHeartbeats 1000000 in
set_option maxRecDepth 100000 in
theorem QP (b:Nat) (w:World) (h0:w.cell? ⟨b,0,none⟩=some (.pointer none)) (hsh:w.shape? b=some (150,2)) (hfz:w.frozen? ⟨b,0,none⟩=false) :
  Calls Tryz.prog 160 #[.pointer (some ⟨b,0,none⟩)] w fun e w'=>e=.returned (.tuple #[])∧w'=w.setCell ⟨b,0,none⟩ (.pointer (some ⟨b,0,none⟩)):=by
 obtain⟨j,hj,hjs⟩:=Option.map_eq_some_iff.1 U4
 go_enter Tryz.func160,Tryz.ntmps160
 go_wp2
 rw[Lib.run_to_unsafe w ⟨b,0,none⟩ Tryz.underlying147 Tryz.underlying192 hj (by rw[hjs];decide) hsh (Nat.zero_lt_succ 1)]
 simp only[Result.andThen]
 rw[Oper.upon_value]
 go_wp2
 rw[run_callFunc_extern Tryz.func178 (by kernel_rfl) (by kernel_rfl) (by kernel_rfl) (e:=Extern.AbiNoEscape.same) (by kernel_rfl)]
 rw[Lib.run_noEscape]
 simp only[Result.andThen]
 rw[Oper.upon_value]
 go_wp2
 rw[Lib.run_from_unsafe w ⟨b,0,none⟩ Tryz.underlying192 Tryz.underlying147 hj hsh Wz]
 simp only[Result.andThen]
 rw[Oper.upon_value]
 go_wp2
 go_end0
 exact⟨rfl,rfl⟩
theorem OY (B b:Nat) (bs:List Value) (w:World) (h:Lib.IsBuilder 150 5 B b bs w) :
  Calls Tryz.prog 160 #[.pointer (some ⟨b,0,none⟩)] w fun e w'=>e=.returned (.tuple #[])∧(Lib.BuilderAt 150 5 B b (.pointer (some ⟨b,0,none⟩)) bs w'∧Below B w w'):=by
 rcases h with h|h
 ·refine (QP b w h.cell0 h.shape h.frozen0).mono ?_
  rintro e w' ⟨rfl,rfl⟩
  exact⟨rfl,h.used _,(Below.refl B w).setCell (p:=⟨b,0,none⟩) h.1 _⟩
 ·refine (TB b w h.cell0).mono ?_
  rintro e w' ⟨rfl,rfl⟩
  exact⟨rfl,h,Below.refl B _⟩
set_option maxHeartbeats 2000000 in
set_option maxRecDepth 100000 in
theorem V4 (B b:Nat) (bs:List Value) (s:ByteArray) (w:World) (h:Lib.IsBuilder 150 5 B b bs w) (hlen:bs.length+s.size≤140737488355328) (hBw:B≤w.heap.size) :
  Calls Tryz.prog 120 #[.pointer (some ⟨b,0,none⟩),.string s] w fun e w'=>e=.returned (.tuple #[.int .i64 s.size,.nilIface])∧(Lib.BuilderAt 150 5 B b (.pointer (some ⟨b,0,none⟩)) (bs++Lib.strCells s) w'∧Below B w w'):=by
 obtain⟨i0,hi,hz0,hz1,hz2⟩:=info_parts Vv
 go_enter Tryz.func120,Tryz.ntmps120
 go_wp2_with (go_at_call 160;refine (OY B b bs _ h).mono ?_)
 rintro e w1 ⟨rfl,h1,hb1⟩
 obtain⟨hB,v,hbk,hown,hne⟩:=h1
 have c0:w1.cell? ⟨b,0,none⟩=some (.pointer (some ⟨b,0,none⟩)):=by rw[Lib.cell_of_heap hbk];rfl
 have c1:w1.cell? ⟨b,1,none⟩=some v:=by rw[Lib.cell_of_heap hbk];rfl
 go_wp2_with (at_builtin;refine Lib.wpList_append_own_string _ rfl _ _ 148 9 rfl B 5 i0 Tryz.underlying148 Tryz.underlying9 hi hz0 hz1 hz2 _ _ _ rfl hown s rfl ?c3 ?c4 ?c5 ?_)
 case c3=>unfold maxLen;omega
 case c4=>omega
 case c5=>have:=hb1.size;omega
 intro v' w2 hown' hgrow _
 have hlt:b<w1.heap.size:=(Array.getElem?_eq_some_iff.1 hbk).1
 have hb2:w2.heap[b]? = some (.cells #[.pointer (some ⟨b,0,none⟩),v] 150 (0,0)):=by
  rw[hgrow.block b hlt (fun e=>hne e.symm)]
  exact hbk
 have d0:w2.cell? ⟨b,0,none⟩=some (.pointer (some ⟨b,0,none⟩)):=by rw[Lib.cell_of_heap hb2];rfl
 have d1:w2.cell? ⟨b,1,none⟩=some v:=by rw[Lib.cell_of_heap hb2];rfl
 have f1:w2.frozen? ⟨b,1,none⟩=false:=Lib.frozen_of_heap hb2 1
 obtain⟨ao,n',cap,rfl⟩:∃ao n' cap,v'=.slice ao n' cap:=by
  rcases hown'.2 with⟨hv,_⟩|⟨g,cap,cur,hv,_⟩
  ·exact⟨_,_,_,hv⟩
  ·exact⟨_,_,_,hv⟩
 go_wp2
 go_ret2
 refine⟨rfl,?_,?_⟩
 ·exact Lib.BuilderAt.put (T:=150) (e:=5) hB hb2 (bs':=bs++Lib.strCells s) (by simpa [Lib.strCells_length] using hown') (by decide)
 ·exact (hb1.grown hgrow (by have:=hb1.size;omega) (fun k hk=>(hown.lt k hk).1)).setCell (p:=⟨b,1,none⟩) hB _
theorem Ot (B b:Nat) (l:List UInt8) (w:World) (h:Lib.IsBuilder 150 5 B b (Lib.byteCells l) w) (hBw:B≤w.heap.size) :
  Calls Tryz.prog 122 #[.pointer (some ⟨b,0,none⟩)] w fun e w'=>e=.returned (.string ⟨l.toArray⟩)∧Below B w w':=Any.Builder_String_any Tryz.TQ Tryz.Rf B b l w h hBw
theorem Su {P:Program} {w:World} {nm:String} {g ty:Nat} {fr:Nat×Nat} (hg:P.globalNamed nm=some g) (h:w.heap[g]? = some (.cells mA ty fr)):Lib.TabIs P w nm .u64 Lib.pow10Tab:=by
 simp only[Lib.TabIs,World.var?,hg,Option.bind_some,h]
 simp[Lib.pow10Tab,mA]
theorem K5 (w:World) (k:Nat) (os:Array Obj):Below w.heap.size w (Go.Sort.grow (w.drewN k) os) :=
 ⟨rfl,rfl,rfl,by simp[Go.Sort.grow],fun j hj=>Go.Sort.heap_grow_old (w.drewN k) os hj⟩
theorem Rw:Wa Tryz.prog 121:=fun n w h0 h1 ht=>by
 refine (Any.strconv_Itoa Tryz.RA n h0 h1 w ?_).mono ?_
 ·obtain⟨ty,fr,h⟩:=ht 0 rfl
  exact Su (by kernel_rfl) h
 ·rintro e w' ⟨rfl,k,os,rfl⟩
  exact⟨rfl,K5 w k os⟩
theorem Az (a b:List UInt8):(⟨a.toArray⟩:ByteArray)++⟨b.toArray⟩=⟨(a++b).toArray⟩:=by
 apply ByteArray.ext
 simp
theorem vx (n:Int) (h0 : -9223372036854775808≤n) (h1:n≤9223372036854775807):(BP n).size≤21:=by
 have:=Lib.itoa_length_le n h0 h1
 simpa [BP,ByteArray.size] using this
theorem Un (n:Int) (w:World) (h0 : -9223372036854775808≤n) (h1:n≤9223372036854775807) (ht:∀b,rn=some b→∃ty fr,w.heap[b]? = some (.cells mA ty fr)) :
  Calls Tryz.prog 94 #[.int .i64 n] w fun e w'=>e=.returned (.string ⟨(Lib.itoa n++[59]).toArray⟩)∧Below w.heap.size w w':=by
 have hsz:=vx n h0 h1
 have e1:BP n++⟨#[59]⟩=⟨(Lib.itoa n++[59]).toArray⟩:=Az (Lib.itoa n) [59]
 go_enter Tryz.func94,Tryz.ntmps94
 go_wp2_with (go_at_call 121;refine (Rw n _ h0 h1 ht).mono ?_;rintro e w' ⟨rfl,hb⟩)
 go_ret
 exact⟨rfl,hb⟩
theorem NN (w:World):Lib.IsBuilder 150 5 w.heap.size w.heap.size [] (w.alloc (.cells #[.pointer none,.slice none 0 0] 150)) :=
 .inl ⟨Nat.le_refl _,.slice none 0 0,heap_alloc_new w _,World.ownsRow_nil _ _ _ _,by simp[Value.ownBlock]⟩
theorem ML (B b:Nat) (bs t:List UInt8) (w:World) (h:Lib.IsBuilder 150 5 B b (Lib.byteCells bs) w) (hlen:bs.length+t.length≤140737488355328) (hBw:B≤w.heap.size) :
  Calls Tryz.prog 120 #[.pointer (some ⟨b,0,none⟩),.string ⟨t.toArray⟩] w fun e w'=>∃v,e=.returned v∧(Lib.BuilderAt 150 5 B b (.pointer (some ⟨b,0,none⟩)) (Lib.byteCells (bs++t)) w'∧Below B w w'):=by
 have e1:Lib.strCells ⟨t.toArray⟩=Lib.byteCells t:=rfl
 have e2:(⟨t.toArray⟩:ByteArray).size=t.length:=List.size_toArray
 generalize hS:(⟨t.toArray⟩:ByteArray)=S at *
 refine (V4 B b (Lib.byteCells bs) S w h (by rw[Lib.byteCells_length,e2];exact hlen) hBw).mono ?_
 rintro e w' ⟨he,h1,h2⟩
 rw[e1,← Lib.byteCells_append]at h1
 exact⟨_,he,h1,h2⟩
theorem DE {w w':World} {B ty s n:Nat} {v:Value} {xs:List Value} (h:w.ownsRow B ty s v n xs) (hb:Below w.heap.size w w'):w'.ownsRow B ty s v n xs:=by
 obtain⟨h1,h2⟩:=h
 refine⟨h1,?_⟩
 rcases h2 with h2|⟨g,cap,cur,k1,k2,k3,k4⟩
 ·exact .inl h2
 ·exact .inr ⟨g,cap,cur,k1,k2,(hb.block g (Array.getElem?_eq_some_iff.1 k3).1).trans k3,k4⟩
theorem pb {w w':World} {B b:Nat} {p:Value} {bs:List Value} (h:Lib.BuilderAt 150 5 B b p bs w) (hb:Below w.heap.size w w'):Lib.BuilderAt 150 5 B b p bs w':=by
 obtain⟨h1,v,h2,h3,h4⟩:=h
 exact⟨h1,v,(hb.block b (Array.getElem?_eq_some_iff.1 h2).1).trans h2,DE h3 hb,h4⟩
theorem EX {w w':World} {B b:Nat} {bs:List Value} (h:Lib.IsBuilder 150 5 B b bs w) (hb:Below w.heap.size w w'):Lib.IsBuilder 150 5 B b bs w':=h.imp (pb · hb) (pb · hb)
theorem FI (l:List Int) {k:Nat} (hk:k<l.length):iF (l.take (k+1))=iF (l.take k)++(Lib.itoa (l.getD k 0)++[59]):=by
 rw[List.take_add_one,List.getElem?_eq_getElem hk]
 simp only[iF,List.flatMap_append,Option.toList_some,List.flatMap_cons,List.flatMap_nil,List.append_nil]
 simp[List.getD,hk]
theorem TU (l:List Int) (k:Nat):(iF (l.take k)).length≤(iF l).length:=by
 have:l=l.take k++l.drop k:=(List.take_append_drop k l).symm
 have h2:iF l=iF (l.take k)++iF (l.drop k):=by
  conv=>lhs;rw[this]
  simp only[iF,List.flatMap_append]
 rw[h2]
 simp
end Go.Proofs.YtpkahnkoecbndaaGreatDoor.Am
