/- Part of a proof, made small by a program (wip/mini.py). -/
import Derived.Test.YtpkahnkoecbndaaGreatDoorZb
namespace Go.Proofs.YtpkahnkoecbndaaGreatDoor.Am
open Go.RowKit
set_option linter.unusedSimpArgs false
set_option linter.unusedVariables false
inductive W where
 | code (c:Code)
 | blk (id:Nat)
section
variable (T:Nat→Option Ty) (Γ:Env) (N F:Nat)
def cT:List W→Kt→Kt
 | [],Q=>Q
 | .code c::ws,Q=>fun x t h e=>Wo x (K3 T Γ N F c t h e (cT ws Q)) (cT ws Q x t h e)
 | .blk id::ws,Q=>fun x t h e=>Qw id x t h e (cT ws Q)
def kL (ops l:List Oper) (ws:List W) (Q:Kt) (t:Nat→D) (h:Nat→Option Row) (e:Nat):Prop :=
 CG T Γ N e ops l t h fun t h=>cT T Γ N F ws Q .normal t h (e+1)
def kM (ops l:List Oper) (ws:List W) (Q:Kt) (t:Nat→D) (h:Nat→Option Row) (e:Nat) (fs:List kn):Prop :=
 runK T Γ N e ops l t h fs fun t h fs=>A8 ops.toArray fs=true∧cT T Γ N F ws Q .normal t h (e+1)
def n0 (o:Oper) (ops l:List Oper) (ws:List W) (Q:Kt) (t:Nat→D) (h:Nat→Option Row) (e:Nat):Prop :=
 SU T Γ e o t h fun t E=>kL T Γ N F ops l ws Q (eE t o.dst E.val) (bt h E.hw) e
def n5 (o:Oper) (ops l:List Oper) (ws:List W) (Q:Kt) (t:Nat→D) (h:Nat→Option Row) (e:Nat) (fs:List kn):Prop :=
 SU T Γ e o t h fun t E=>kM T Γ N F ops l ws Q (eE t o.dst E.val) (bt h E.hw) e (fs++[⟨bR o (ev t),E.hw.isEmpty⟩])
def tY (d:D) (g:Nat) (want:Bool) (o:Oper) (ops l:List Oper) (ws:List W) (Q:Kt) (t:Nat→D) (h:Nat→Option Row) (e:Nat):Prop :=
 wpS d t g (fun t=>if want then n0 T Γ N F o ops l ws Q t h e else kL T Γ N F ops l ws Q (eE t o.dst .skp) h e) (fun t=>if want then kL T Γ N F ops l ws Q (eE t o.dst .skp) h e else n0 T Γ N F o ops l ws Q t h e) (fun t=>kL T Γ N F ops l ws Q (eE t o.dst .skp) h e)
def tZ (d:D) (g:Nat) (want:Bool) (o:Oper) (ops l:List Oper) (ws:List W) (Q:Kt) (t:Nat→D) (h:Nat→Option Row) (e:Nat) (fs:List kn):Prop :=
 wpS d t g (fun t=>if want then n5 T Γ N F o ops l ws Q t h e fs else kM T Γ N F ops l ws Q (eE t o.dst .skp) h e (fs++[⟨[],true⟩])) (fun t=>if want then kM T Γ N F ops l ws Q (eE t o.dst .skp) h e (fs++[⟨[],true⟩]) else n5 T Γ N F o ops l ws Q t h e fs) (fun t=>kM T Γ N F ops l ws Q (eE t o.dst .skp) h e (fs++[⟨[],true⟩]))
def vv (x:Option dB) (dst:Option Nat) (ops l:List Oper) (ws:List W) (Q:Kt) (t:Nat→D) (h:Nat→Option Row) (e:Nat):Prop :=
 sE x fun E=>kL T Γ N F ops l ws Q (eE t dst E.val) (bt h E.hw) e
def vw (x:Option dB) (dst:Option Nat) (ft:List Nat) (ops l:List Oper) (ws:List W) (Q:Kt) (t:Nat→D) (h:Nat→Option Row) (e:Nat) (fs:List kn):Prop :=
 sE x fun E=>kM T Γ N F ops l ws Q (eE t dst E.val) (bt h E.hw) e (fs++[⟨ft,E.hw.isEmpty⟩])
def HA (d:D) (g:Nat) (x y:Code) (ws:List W) (Q:Kt) (t:Nat→D) (h:Nat→Option Row) (e:Nat):Prop :=
 MP d t g (fun t=>cT T Γ N F (.code x::ws) Q .normal t h e) (fun t=>cT T Γ N F (.code y::ws) Q .normal t h e)
def RM (d:D) (g:Nat) (a b:Operand) (dst:Option Nat) (ops l:List Oper) (ws:List W) (Q:Kt) (t:Nat→D) (h:Nat→Option Row) (e:Nat):Prop :=
 MP d t g (fun t=>kL T Γ N F ops l ws Q (eE t dst (ev t a)) h e) (fun t=>kL T Γ N F ops l ws Q (eE t dst (ev t b)) h e)
def RN (d:D) (g:Nat) (a b:Operand) (dst:Option Nat) (ops l:List Oper) (ws:List W) (Q:Kt) (t:Nat→D) (h:Nat→Option Row) (e:Nat) (fs:List kn):Prop :=
 MP d t g (fun t=>kM T Γ N F ops l ws Q (eE t dst (ev t a)) h e (fs++[⟨[],true⟩])) (fun t=>kM T Γ N F ops l ws Q (eE t dst (ev t b)) h e (fs++[⟨[],true⟩]))
def Of (b:Code) (ws:List W) (Q:Kt) (t:Nat→D) (h:Nat→Option Row) (e:Nat):Prop:=K3 T Γ N F (.loop b) t h e (cT T Γ N F ws Q)
end
theorem Fe {n:Nat} (h:n≤1000000):n≤maxLen:=Nat.le_trans h (by decide)
theorem FK {z:List D} : nH 0 z=[]:=Eq.trans rfl rfl
theorem FJ {n:Nat} {z:List D} : nH (n+1) z=z++nH n z:=by simp [nH,List.replicate_succ]
theorem EZ {N:Nat} : fits N none=true:=Eq.trans rfl rfl
theorem E0 {N i:Nat} : fits N (some i)=decide (i<N):=Eq.trans rfl rfl
def rL:List Oper→Nat→Nat
 | [],_=>0
 | o::_,0=>o.dst.getD 0
 | _::l,j+1=>rL l j
def wF:List Oper→Nat→Bool
 | [],_=>false
 | o::_,0=>o.dst.isSome
 | _::l,j+1=>wF l j
theorem A3 : ∀ (l:List Oper) (j:Nat),wF l j=true→(l[j]?).bind (·.dst)=some (rL l j)
 | [],j,h=>by simp [wF] at h
 | o::l,0,h=>by
  simp only [wF] at h
  simp only [List.getElem?_cons_zero,Option.bind_some,rL]
  cases hd:o.dst with
  | none=>rw [hd] at h; cases h
  | some d=>rfl
 | o::l,j+1,h=>by simpa [rL] using A3 l j h
theorem A5 {d:Nat} {op:Op} {ty:Nat} {pos:String} {af:Array Edge} {gd:Option (Nat×Bool)} {l:List Oper} : rL (⟨some d,op,ty,pos,af,gd⟩::l) 0=d:=Eq.trans rfl rfl
theorem A4 {o:Oper} {l:List Oper} {j:Nat} : rL (o::l) (j+1)=rL l j:=Eq.trans rfl rfl
theorem BV {d:Nat} {op:Op} {ty:Nat} {pos:String} {af:Array Edge} {gd:Option (Nat×Bool)} {l:List Oper} : wF (⟨some d,op,ty,pos,af,gd⟩::l) 0=true:=Eq.trans rfl rfl
theorem BU {o:Oper} {l:List Oper} {j:Nat} : wF (o::l) (j+1)=wF l j:=Eq.trans rfl rfl
section
variable {dst:Option Nat} {ty:Nat} {pos:String} {af:Array Edge} {gd:Option (Nat×Bool)} {vs:Operand→D}
def wI (vs:Operand→D):List Operand→List Nat
 | []=>[]
 | x::l=>nm (vs x)++wI vs l
theorem eY (vs:Operand→D) : ∀ l:List Operand,(l.flatMap fun x=>nm (vs x))=wI vs l
 | []=>Eq.trans rfl rfl
 | x::l=>by rw [List.flatMap_cons,eY vs l]; exact Eq.trans rfl rfl
theorem N4:wI vs []=[]:=Eq.trans rfl rfl
theorem J7 {x:Operand} {l:List Operand} : wI vs (x::l)=nm (vs x)++wI vs l:=Eq.trans rfl rfl
theorem zl {o:BinOp} {tt z:Nat} {x y:Operand} : bR ⟨dst,.binOp o tt x y z,ty,pos,af,gd⟩ vs=wI vs [x,y]++dst.toList:=by rw [← eY]; rfl
theorem CV {o:UnOp} {tt:Nat} {x:Operand} : bR ⟨dst,.unOp o tt x,ty,pos,af,gd⟩ vs=wI vs [x]++dst.toList:=by rw [← eY]; rfl
theorem w6 {x:Operand} : bR ⟨dst,.assign x,ty,pos,af,gd⟩ vs=wI vs [x]++dst.toList:=by rw [← eY]; rfl
theorem CU {tt:Nat} {x:Operand} : bR ⟨dst,.load tt x,ty,pos,af,gd⟩ vs=wI vs [x]++dst.toList:=by rw [← eY]; rfl
theorem zq {tt:Nat} {x y:Operand} : bR ⟨dst,.store tt x y,ty,pos,af,gd⟩ vs=wI vs [x,y]++dst.toList:=by rw [← eY]; rfl
theorem sW {x:Operand} : bR ⟨dst,.nilCheck x,ty,pos,af,gd⟩ vs=wI vs [x]++dst.toList:=by rw [← eY]; rfl
theorem rj {tt i:Nat} {x:Operand} : bR ⟨dst,.fieldAddr tt x i,ty,pos,af,gd⟩ vs=wI vs [x]++dst.toList:=by rw [← eY]; rfl
theorem zn {tt i:Nat} {x:Operand} : bR ⟨dst,.field tt x i,ty,pos,af,gd⟩ vs=wI vs [x]++dst.toList:=by rw [← eY]; rfl
theorem rl {tt:Nat} {x i:Operand} : bR ⟨dst,.indexAddr tt x i,ty,pos,af,gd⟩ vs=wI vs [x,i]++dst.toList:=by rw [← eY]; rfl
theorem zo {tt:Nat} {x i:Operand} : bR ⟨dst,.index tt x i,ty,pos,af,gd⟩ vs=wI vs [x,i]++dst.toList:=by rw [← eY]; rfl
theorem rm {tt:Nat} {x y:Operand} : bR ⟨dst,.makeSlice tt x y,ty,pos,af,gd⟩ vs=wI vs [x,y]++dst.toList:=by rw [← eY]; rfl
theorem zk {tt:Nat} : bR ⟨dst,.alloc tt,ty,pos,af,gd⟩ vs=wI vs []++dst.toList:=by rw [← eY]; rfl
theorem F2 {tt:Nat} {x:Operand} : bR ⟨dst,.box tt x,ty,pos,af,gd⟩ vs=wI vs [x]++dst.toList:=by rw [← eY]; rfl
theorem uP {tt:Nat} : bR ⟨dst,.makeMap tt none,ty,pos,af,gd⟩ vs=wI vs []++dst.toList:=by rw [← eY]; rfl
theorem w8 {tt:Nat} {m i:Operand} {ok:Bool} : bR ⟨dst,.lookup tt m i ok,ty,pos,af,gd⟩ vs=wI vs [m,i]++dst.toList:=by rw [← eY]; rfl
theorem rn {tt:Nat} {m i x:Operand} : bR ⟨dst,.mapUpdate tt m i x,ty,pos,af,gd⟩ vs=wI vs [m,i,x]++dst.toList:=by rw [← eY]; rfl
theorem w7 {tt:Nat} {m i x:Operand} : bR ⟨dst,.insert tt m i x,ty,pos,af,gd⟩ vs=wI vs [m,i,x]++dst.toList:=by rw [← eY]; rfl
theorem uN {a b:Nat} {x:Operand} : bR ⟨dst,.convert a b x,ty,pos,af,gd⟩ vs=wI vs [x]++dst.toList:=by rw [← eY]; rfl
theorem uO {x:Operand} {i:Nat} : bR ⟨dst,.extract x i,ty,pos,af,gd⟩ vs=wI vs [x]++dst.toList:=by rw [← eY]; rfl
theorem zm {tt:Nat} {ps:List (Nat×Operand)} : bR ⟨dst,.build tt ps.toArray,ty,pos,af,gd⟩ vs=wI vs (ps.map (·.2))++dst.toList:=by rw [← eY]; rfl
theorem pr {tt len:Nat} {ps:List (Nat×Operand)} : bR ⟨dst,.buildSlice tt len ps.toArray,ty,pos,af,gd⟩ vs=wI vs (ps.map (·.2))++dst.toList:=by rw [← eY]; rfl
theorem zp {tt:Nat} {x:Operand} {lo hi mx:Option Operand} : bR ⟨dst,.slice tt x lo hi mx,ty,pos,af,gd⟩ vs=wI vs (x::(lo.toList++(hi.toList++mx.toList)))++dst.toList:=by
 rw [← eY]; cases lo <;> cases hi <;> cases mx <;> rfl
theorem CT {x:Operand} {l:List Operand} {tys:Array Nat} : bR ⟨dst,.call ⟨.value x,l.toArray,tys⟩,ty,pos,af,gd⟩ vs=wI vs (x::l)++dst.toList:=by
 rw [← eY]; simp [bR,Op.operands,Call.operands]
theorem uM {x:Builtin} {l:List Operand} {tys:Array Nat} : bR ⟨dst,.call ⟨.builtin x,l.toArray,tys⟩,ty,pos,af,gd⟩ vs=wI vs l++dst.toList:=by
 rw [← eY]; simp [bR,Op.operands,Call.operands]
end
section
variable {T:Nat→Option Ty} {ty e:Nat} {dst:Option Nat} {h:Nat→Option Row}
theorem Nb {k:IntKind} {n:Int} : bM T ty e dst h (.int k n)=some ⟨.int k n,[]⟩:=Eq.trans rfl rfl
theorem HO {b:Bool} : bM T ty e dst h (.bool b)=some ⟨.bool b,[]⟩:=Eq.trans rfl rfl
theorem Ng {b:ByteArray} : bM T ty e dst h (.str b)=some ⟨.str b,[]⟩:=Eq.trans rfl rfl
theorem Qt {tg:Bool} {n:Nat} {xs:List D} : bM T ty e dst h (.sl false tg n xs)=some ⟨.sl false tg n xs,[]⟩:=Eq.trans rfl rfl
theorem Nf {x v o:Nat} : bM T ty e dst h (.ptr x v o)=some ⟨.ptr x v o,[]⟩:=Eq.trans rfl rfl
theorem Qq {xs:List D} : bM T ty e dst h (.ip xs)=some ⟨.ip xs,[]⟩:=Eq.trans rfl rfl
theorem M9 {xs:List D} : bM T ty e dst h (.agg xs)=some ⟨.agg xs,[]⟩:=Eq.trans rfl rfl
theorem Nh {xs:List D} : bM T ty e dst h (.tup xs)=some ⟨.tup xs,[]⟩:=Eq.trans rfl rfl
theorem Qp {f:Nat} : bM T ty e dst h (.fn f)=some ⟨.fn f,[]⟩:=Eq.trans rfl rfl
theorem Qr {x v:Nat} : bM T ty e dst h (.mp x v)=some ⟨.mp x v,[]⟩:=Eq.trans rfl rfl
theorem Nc {ks:List Int} {vs:List D} : bM T ty e dst h (.mpc ks vs)=some ⟨.mpc ks vs,[]⟩:=Eq.trans rfl rfl
theorem Qs {x v y:Nat} : bM T ty e dst h (.pm x v y)=some ⟨.pm x v y,[]⟩:=Eq.trans rfl rfl
theorem zW {f kk:Nat} {xs:List D} : bM T ty e dst h (.clo f kk xs)=some ⟨.clo f kk xs,[]⟩:=Eq.trans rfl rfl
def UR (b:Bool) (T:Nat→Option Ty) (ty e d:Nat) (h:Nat→Option Row) (x:D):Option dB:=if b then bM T ty e (some d) h x else gF h x
theorem D4 {d:Nat} {x:D} : UR true T ty e d h x=bM T ty e (some d) h x:=Eq.trans rfl rfl
theorem Aw {d:Nat} {x:D} : UR false T ty e d h x=gF h x:=Eq.trans rfl rfl
theorem T8 {q:Nat→Bool} {d:Nat} {x:D} : oC T q ty e (some d) h x=UR (q d) T ty e d h x:=Eq.trans rfl rfl
theorem M5 {k:IntKind} {n:Int} : gF h (.int k n)=some ⟨.int k n,[]⟩:=Eq.trans rfl rfl
theorem HI {b:Bool} : gF h (.bool b)=some ⟨.bool b,[]⟩:=Eq.trans rfl rfl
theorem M6 {b:ByteArray} : gF h (.str b)=some ⟨.str b,[]⟩:=Eq.trans rfl rfl
theorem M3 {xs:List D} : gF h (.agg xs)=some ⟨.agg (xs.map canon),[]⟩:=Eq.trans rfl rfl
theorem Qi {a b:Bool} {n:Nat} {xs:List D} : gF h (.sl a b n xs)=some ⟨.sl false false n xs,[]⟩:=Eq.trans rfl rfl
theorem Ni:bM T ty e dst h .und=some ⟨.und,[]⟩:=Eq.trans rfl rfl
def S9 (e d y s o n:Nat) (r:Row):Bool→Option dB
 | true=>some ⟨.buf y r.v s o n,[]⟩
 | false=>some ⟨.buf d e s o n,[(y,none),(d,some { r with v:=e })]⟩
theorem Av {d y s o n:Nat} {r:Row} : S9 e d y s o n r false=some ⟨.buf d e s o n,[(y,none),(d,some { r with v:=e })]⟩:=Eq.trans rfl rfl
def UQ (e:Nat) (dst:Option Nat) (y s o n:Nat):Option Row→Option dB
 | some r=>match dst with | some d=>S9 e d y s o n r r.fz | none=>some ⟨.und,[]⟩
 | none=>some ⟨.und,[]⟩
theorem D2 {d y s o n:Nat} {r:Row} : UQ e (some d) y s o n (some r)=S9 e d y s o n r r.fz:=Eq.trans rfl rfl
theorem Na {d y v s o n:Nat} : bM T ty e (some d) h (.buf y v s o n)=UQ e (some d) y s o n (live h y v):=by
 simp only [bM]
 cases hl:live h y v with
 | none=>rfl
 | some r =>
  obtain ⟨_,hv⟩:=bP hl
  simp only [UQ]
  cases hz:r.fz <;> simp [S9,hv,hz]
def Ta (e:Nat) (dst:Option Nat) (T:Nat→Option Ty):Option Ty→Option dB
 | some τ =>
  match dst with
  | some d=>match τ.ds with
   | .slice el=>match T el with | some φ=>some ⟨.buf d e φ.size 0 0,[(d,some ⟨e,el,[],false,true,false⟩)]⟩ | none=>none
   | _=>none
  | none=>none
 | none=>none
theorem D3 {d el b c:Nat} {z:List Value} {q:Bool} {φ:Ty} (hφ:T el=some φ):Ta e (some d) T (some ⟨.slice el,b,c,z,q⟩)=some ⟨.buf d e φ.size 0 0,[(d,some ⟨e,el,[],false,true,false⟩)]⟩:=by simp only [Ta,hφ]
theorem Nd:bM T ty e dst h (.sl true true 0 [])=Ta e dst T (T ty):=by
 unfold bM Ta
 cases dst <;> cases T ty <;> rfl
end
def Vf (x:Option D):Option dB:=match x with | some d=>some ⟨d,[]⟩ | none=>none
theorem J8 (d:D):Vf (some d)=some ⟨d,[]⟩:=Eq.trans rfl rfl
def xX (x:Option Ty) (f:Ty→Option dB):Option dB:=match x with | some τ=>f τ | none=>none
theorem Kj (τ:Ty) (f:Ty→Option dB):xX (some τ) f=f τ:=Eq.trans rfl rfl
def UU (x:Option (List D×List Nat)) (h:Nat→Option Row) (ty d e:Nat):Option dB :=
 match x with
 | some (cs,fr)=>if fr.contains d=false then some ⟨.ptr d e 0,iL h fr++[(d,some ⟨e,ty,cs,false,false,false⟩)]⟩ else none
 | none=>none
theorem D8 (cs:List D) (fr:List Nat) (h:Nat→Option Row) (ty d e:Nat):UU (some (cs,fr)) h ty d e=if fr.contains d=false then some ⟨.ptr d e 0,iL h fr++[(d,some ⟨e,ty,cs,false,false,false⟩)]⟩ else none:=Eq.trans rfl rfl
def TI (d e:Nat):Option Nat→D
 | some y => .pm d e y
 | none => .ptr d e 0
theorem Fv {d e y:Nat} : TI d e (some y) = .pm d e y:=Eq.trans rfl rfl
theorem Fu {d e:Nat} : TI d e none = .ptr d e 0:=Eq.trans rfl rfl
def Ar (x:Option Ty) (ty d e:Nat) (y:Option Nat):Option dB :=
 match x with
 | some τ=>if (τ.zero.map pj).all aZ then some ⟨TI d e y,[(d,some ⟨e,ty,τ.zero.map pj,false,false,false⟩)]⟩ else none
 | none=>none
theorem ym (τ:Ty) (ty d e:Nat) (y:Option Nat):Ar (some τ) ty d e y=if (τ.zero.map pj).all aZ then some ⟨TI d e y,[(d,some ⟨e,ty,τ.zero.map pj,false,false,false⟩)]⟩ else none:=Eq.trans rfl rfl
def V7 (T:Nat→Option Ty) (x:Option Ty) (ty e d:Nat):Option dB:=match x with | some τ=>ns T ty τ e d | none=>none
def QN (x y:Option Ty) (d:D):Option dB :=
 match x,y,d with
 | some τ,some _,.int _ n=>(match τ.ds with | .int k=>some ⟨.int k (k.wrap n),[]⟩ | _=>none)
 | _,_,_=>none
theorem Ep (k:IntKind) (b c:Nat) (z:List Value) (q:Bool) (σ:Ty) (k':IntKind) (n:Int):QN (some ⟨.int k,b,c,z,q⟩) (some σ) (.int k' n)=some ⟨.int k (k.wrap n),[]⟩:=Eq.trans rfl rfl
def Tp (d:D) (i:Nat):Option dB:=match d with | .tup xs=>(match xs[i]? with | some d=>some ⟨d,[]⟩ | none=>none) | _=>none
theorem IS (xs:List D) (i:Nat):Tp (.tup xs) i=Vf xs[i]?:=by simp only [Tp,Vf]
section
variable {T:Nat→Option Ty} {Γ:Env} {N F e:Nat} {ws:List W} {Q:Kt} {t:Nat→D} {h:Nat→Option Row}
theorem cY {x:Ex} : cT T Γ N F [] Q x t h e=Q x t h e:=Eq.trans rfl rfl
theorem FV:cT T Γ N F (.code .skip::ws) Q .normal t h e=cT T Γ N F ws Q .normal t h e:=Eq.trans rfl rfl
theorem Kz {a b:Code} : cT T Γ N F (.code (.seq a b)::ws) Q .normal t h e=cT T Γ N F (.code a :: .code b::ws) Q .normal t h e:=Eq.trans rfl rfl
theorem Ky:cT T Γ N F (.code .ret::ws) Q .normal t h e=cT T Γ N F ws Q .ret t h e:=Eq.trans rfl rfl
theorem FR {id:Nat} : cT T Γ N F (.code (.exit id)::ws) Q .normal t h e=cT T Γ N F ws Q (.exit id) t h e:=Eq.trans rfl rfl
theorem CH {id:Nat} {b:Code} : cT T Γ N F (.code (.block id b)::ws) Q .normal t h e=cT T Γ N F (.code b :: .blk id::ws) Q .normal t h e:=Eq.trans rfl rfl
theorem FT {b:Code} : cT T Γ N F (.code (.loop b)::ws) Q .normal t h e=Of T Γ N F b ws Q t h e:=Eq.trans rfl rfl
theorem bo {c:Code} : cT T Γ N F (.code c::ws) Q .ret t h e=cT T Γ N F ws Q .ret t h e:=Eq.trans rfl rfl
theorem bf {c:Code} {n:Nat} : cT T Γ N F (.code c::ws) Q (.exit n) t h e=cT T Γ N F ws Q (.exit n) t h e:=Eq.trans rfl rfl
theorem rf {id:Nat} : cT T Γ N F (.blk id::ws) Q .normal t h e=cT T Γ N F ws Q .normal t h e:=Eq.trans rfl rfl
theorem bG {id:Nat} : cT T Γ N F (.blk id::ws) Q .ret t h e=cT T Γ N F ws Q .ret t h e:=Eq.trans rfl rfl
theorem uJ {id n:Nat} : cT T Γ N F (.blk id::ws) Q (.exit n) t h e=if n=id then cT T Γ N F ws Q .normal t h e else cT T Γ N F ws Q (.exit n) t h e:=Eq.trans rfl rfl
theorem zh {i:Nat} {ops:List Oper} : cT T Γ N F (.code (.region i ops.toArray false)::ws) Q .normal t h e=kL T Γ N F ops ops ws Q t h e:=Eq.trans rfl rfl
theorem CL {i:Nat} {ops:List Oper} : cT T Γ N F (.code (.region i ops.toArray true)::ws) Q .normal t h e=kM T Γ N F ops ops ws Q t h e []:=Eq.trans rfl rfl
theorem FQ {g:Nat} {x y:Code} : cT T Γ N F (.code (.cond (.tmp g) x y)::ws) Q .normal t h e=HA T Γ N F (t g) g x y ws Q t h e:=Eq.trans rfl rfl
theorem CJ {x y:Code} : cT T Γ N F (.code (.cond (.const (.bool true)) x y)::ws) Q .normal t h e=cT T Γ N F (.code x::ws) Q .normal t h e:=Eq.trans rfl rfl
theorem CI {x y:Code} : cT T Γ N F (.code (.cond (.const (.bool false)) x y)::ws) Q .normal t h e=cT T Γ N F (.code y::ws) Q .normal t h e:=Eq.trans rfl rfl
theorem F5 {g:Nat} {x y:Code} (hg:t g = .bool true):HA T Γ N F (.bool true) g x y ws Q t h e=cT T Γ N F (.code x::ws) Q .normal t h e:=xc hg
theorem CX {g:Nat} {x y:Code} (hg:t g = .bool false):HA T Γ N F (.bool false) g x y ws Q t h e=cT T Γ N F (.code y::ws) Q .normal t h e:=tP hg
theorem PU {b:Bool} {g:Nat} {x y:Code} : HA T Γ N F (.bool b) g x y ws Q t h e=br b (cT T Γ N F (.code x::ws) Q .normal (dP t g (.bool true)) h e) (cT T Γ N F (.code y::ws) Q .normal (dP t g (.bool false)) h e):=by
 unfold HA; rw [SS]; cases b <;> simp [br]
variable {ops l:List Oper} {dst:Option Nat} {op:Op} {ty:Nat} {pos:String} {af:Array Edge} {gd:Option (Nat×Bool)} {fs:List kn}
theorem Kw:kL T Γ N F ops [] ws Q t h e=cT T Γ N F ws Q .normal t h (e+1):=Eq.trans rfl rfl
theorem FO (hf:fits N dst=true):kL T Γ N F ops (⟨dst,op,ty,pos,af,none⟩::l) ws Q t h e=n0 T Γ N F ⟨dst,op,ty,pos,af,none⟩ ops l ws Q t h e:=by
 simp only [kL,CG,SW,hf,true_and,n0]
theorem CE {j:Nat} {want:Bool} (hf:fits N dst=true) (hj:wF ops j=true):kL T Γ N F ops (⟨dst,op,ty,pos,af,some (j,want)⟩::l) ws Q t h e=tY T Γ N F (t (rL ops j)) (rL ops j) want ⟨dst,op,ty,pos,af,none⟩ ops l ws Q t h e:=by
 simp only [kL,CG,SW,hf,true_and,A3 ops j hj,qn,tY]
 cases want <;> rfl
theorem KS {g:Nat} {want:Bool} {o:Oper} : tY T Γ N F .skp g want o ops l ws Q t h e=kL T Γ N F ops l ws Q (eE t o.dst .skp) h e:=Eq.trans rfl rfl
theorem F6 {g:Nat} {o:Oper} (hg:t g = .bool true):tY T Γ N F (.bool true) g true o ops l ws Q t h e=n0 T Γ N F o ops l ws Q t h e:=(xf hg).trans (if_pos rfl)
theorem CY {g:Nat} {o:Oper} (hg:t g = .bool false):tY T Γ N F (.bool false) g true o ops l ws Q t h e=kL T Γ N F ops l ws Q (eE t o.dst .skp) h e:=(tQ hg).trans (if_pos rfl)
theorem CZ {g:Nat} {o:Oper} (hg:t g = .bool true):tY T Γ N F (.bool true) g false o ops l ws Q t h e=kL T Γ N F ops l ws Q (eE t o.dst .skp) h e:=(xf hg).trans (if_neg (by decide))
theorem zr {g:Nat} {o:Oper} (hg:t g = .bool false):tY T Γ N F (.bool false) g false o ops l ws Q t h e=n0 T Γ N F o ops l ws Q t h e:=(tQ hg).trans (if_neg (by decide))
theorem PV {b:Bool} {g:Nat} {o:Oper} : tY T Γ N F (.bool b) g true o ops l ws Q t h e=br b (n0 T Γ N F o ops l ws Q (dP t g (.bool true)) h e) (kL T Γ N F ops l ws Q (eE (dP t g (.bool false)) o.dst .skp) h e):=by
 unfold tY; rw [xe]; cases b <;> simp [br]
theorem MG {b:Bool} {g:Nat} {o:Oper} : tY T Γ N F (.bool b) g false o ops l ws Q t h e=br b (kL T Γ N F ops l ws Q (eE (dP t g (.bool true)) o.dst .skp) h e) (n0 T Γ N F o ops l ws Q (dP t g (.bool false)) h e):=by
 unfold tY; rw [xe]; cases b <;> simp [br]
theorem Kx:kM T Γ N F ops [] ws Q t h e fs=(A8 ops.toArray fs=true∧cT T Γ N F ws Q .normal t h (e+1)):=Eq.trans rfl rfl
theorem FP (hf:fits N dst=true):kM T Γ N F ops (⟨dst,op,ty,pos,af,none⟩::l) ws Q t h e fs=n5 T Γ N F ⟨dst,op,ty,pos,af,none⟩ ops l ws Q t h e fs:=by
 simp only [kM,runK,SW,hf,true_and,n5]
theorem CF {j:Nat} {want:Bool} (hf:fits N dst=true) (hj:wF ops j=true):kM T Γ N F ops (⟨dst,op,ty,pos,af,some (j,want)⟩::l) ws Q t h e fs=tZ T Γ N F (t (rL ops j)) (rL ops j) want ⟨dst,op,ty,pos,af,none⟩ ops l ws Q t h e fs:=by
 simp only [kM,runK,SW,hf,true_and,A3 ops j hj,qn,tZ]
 cases want <;> rfl
theorem KU {g:Nat} {want:Bool} {o:Oper} : tZ T Γ N F .skp g want o ops l ws Q t h e fs=kM T Γ N F ops l ws Q (eE t o.dst .skp) h e (fs++[⟨[],true⟩]):=Eq.trans rfl rfl
theorem F7 {g:Nat} {o:Oper} (hg:t g = .bool true):tZ T Γ N F (.bool true) g true o ops l ws Q t h e fs=n5 T Γ N F o ops l ws Q t h e fs:=(xf hg).trans (if_pos rfl)
theorem C0 {g:Nat} {o:Oper} (hg:t g = .bool false):tZ T Γ N F (.bool false) g true o ops l ws Q t h e fs=kM T Γ N F ops l ws Q (eE t o.dst .skp) h e (fs++[⟨[],true⟩]):=(tQ hg).trans (if_pos rfl)
theorem C1 {g:Nat} {o:Oper} (hg:t g = .bool true):tZ T Γ N F (.bool true) g false o ops l ws Q t h e fs=kM T Γ N F ops l ws Q (eE t o.dst .skp) h e (fs++[⟨[],true⟩]):=(xf hg).trans (if_neg (by decide))
theorem zt {g:Nat} {o:Oper} (hg:t g = .bool false):tZ T Γ N F (.bool false) g false o ops l ws Q t h e fs=n5 T Γ N F o ops l ws Q t h e fs:=(tQ hg).trans (if_neg (by decide))
theorem PW {b:Bool} {g:Nat} {o:Oper} : tZ T Γ N F (.bool b) g true o ops l ws Q t h e fs=br b (n5 T Γ N F o ops l ws Q (dP t g (.bool true)) h e fs) (kM T Γ N F ops l ws Q (eE (dP t g (.bool false)) o.dst .skp) h e (fs++[⟨[],true⟩])):=by
 unfold tZ; rw [xe]; cases b <;> simp [br]
theorem MH {b:Bool} {g:Nat} {o:Oper} : tZ T Γ N F (.bool b) g false o ops l ws Q t h e fs=br b (kM T Γ N F ops l ws Q (eE (dP t g (.bool true)) o.dst .skp) h e (fs++[⟨[],true⟩])) (n5 T Γ N F o ops l ws Q (dP t g (.bool false)) h e fs):=by
 unfold tZ; rw [xe]; cases b <;> simp [br]
theorem KK {d:D} {hw:List (Nat×Option Row)} : vv T Γ N F (some ⟨d,hw⟩) dst ops l ws Q t h e=kL T Γ N F ops l ws Q (eE t dst d) (bt h hw) e:=Eq.trans rfl rfl
theorem KL {d:D} {hw:List (Nat×Option Row)} {ft:List Nat} : vw T Γ N F (some ⟨d,hw⟩) dst ft ops l ws Q t h e fs=kM T Γ N F ops l ws Q (eE t dst d) (bt h hw) e (fs++[⟨ft,hw.isEmpty⟩]):=Eq.trans rfl rfl
theorem Oj {c:Prop} [Decidable c] {E:dB} : vv T Γ N F (if c then some E else none) dst ops l ws Q t h e=(c∧vv T Γ N F (some E) dst ops l ws Q t h e):=by
 by_cases hc:c <;> simp [hc,vv,sE]
theorem Ol {c:Prop} [Decidable c] {E:dB} {ft:List Nat} : vw T Γ N F (if c then some E else none) dst ft ops l ws Q t h e fs=(c∧vw T Γ N F (some E) dst ft ops l ws Q t h e fs):=by
 by_cases hc:c <;> simp [hc,vw,sE]
theorem Co {g:Nat} {a b:Operand} (hg:t g = .bool true):RM T Γ N F (.bool true) g a b dst ops l ws Q t h e=kL T Γ N F ops l ws Q (eE t dst (ev t a)) h e:=xc hg
theorem y5 {g:Nat} {a b:Operand} (hg:t g = .bool false):RM T Γ N F (.bool false) g a b dst ops l ws Q t h e=kL T Γ N F ops l ws Q (eE t dst (ev t b)) h e:=tP hg
theorem Cp {g:Nat} {a b:Operand} (hg:t g = .bool true):RN T Γ N F (.bool true) g a b dst ops l ws Q t h e fs=kM T Γ N F ops l ws Q (eE t dst (ev t a)) h e (fs++[⟨[],true⟩]):=xc hg
theorem y6 {g:Nat} {a b:Operand} (hg:t g = .bool false):RN T Γ N F (.bool false) g a b dst ops l ws Q t h e fs=kM T Γ N F ops l ws Q (eE t dst (ev t b)) h e (fs++[⟨[],true⟩]):=tP hg
theorem Iy {c:Nat} {a b:Operand} : n0 T Γ N F ⟨dst,.pick (.tmp c) a b,ty,pos,af,gd⟩ ops l ws Q t h e=RM T Γ N F (t c) c a b dst ops l ws Q t h e:=Eq.trans rfl rfl
theorem IE {c:Nat} {a b:Operand} : n5 T Γ N F ⟨dst,.pick (.tmp c) a b,ty,pos,af,gd⟩ ops l ws Q t h e fs=RN T Γ N F (t c) c a b dst ops l ws Q t h e fs:=Eq.trans rfl rfl
theorem Ix {x:Operand} : n0 T Γ N F ⟨dst,.move x,ty,pos,af,gd⟩ ops l ws Q t h e=kL T Γ N F ops l ws Q (eE t dst (ev t x)) h e:=Eq.trans rfl rfl
theorem ID {x:Operand} : n5 T Γ N F ⟨dst,.move x,ty,pos,af,gd⟩ ops l ws Q t h e fs=kM T Γ N F ops l ws Q (eE t dst (ev t x)) h e (fs++[⟨[],true⟩]):=Eq.trans rfl rfl
theorem dC {x:Option dB} (hp : ∀ c a b,op ≠ .pick c a b) (hx:lG T Γ e ⟨dst,op,ty,pos,af,gd⟩ (ev t) h=x):n0 T Γ N F ⟨dst,op,ty,pos,af,gd⟩ ops l ws Q t h e=vv T Γ N F x dst ops l ws Q t h e:=by
 subst hx
 unfold n0 vv SU
 cases op <;> first | rfl | exact absurd rfl (hp _ _ _)
theorem dD {x:Option dB} (hp : ∀ c a b,op ≠ .pick c a b) (hx:lG T Γ e ⟨dst,op,ty,pos,af,gd⟩ (ev t) h=x):n5 T Γ N F ⟨dst,op,ty,pos,af,gd⟩ ops l ws Q t h e fs=vw T Γ N F x dst (bR ⟨dst,op,ty,pos,af,gd⟩ (ev t)) ops l ws Q t h e fs:=by
 subst hx
 unfold n5 vw SU
 cases op <;> first | rfl | exact absurd rfl (hp _ _ _)
theorem Es {o:BinOp} {tt z:Nat} {x y:Operand} : n0 T Γ N F ⟨dst,.binOp o tt x y z,ty,pos,af,gd⟩ ops l ws Q t h e=vv T Γ N F (Vf (xm T tt o (ev t x) (ev t y))) dst ops l ws Q t h e:=dC (fun _ _ _ hh=>by cases hh) (by simp only [lG]; first | rfl | (cases xm T tt o (ev t x) (ev t y) <;> rfl))
theorem EB {o:BinOp} {tt z:Nat} {x y:Operand} : n5 T Γ N F ⟨dst,.binOp o tt x y z,ty,pos,af,gd⟩ ops l ws Q t h e fs=vw T Γ N F (Vf (xm T tt o (ev t x) (ev t y))) dst (bR ⟨dst,.binOp o tt x y z,ty,pos,af,gd⟩ (ev t)) ops l ws Q t h e fs:=dD (fun _ _ _ hh=>by cases hh) (by simp only [lG]; first | rfl | (cases xm T tt o (ev t x) (ev t y) <;> rfl))
theorem Iz {o:UnOp} {tt:Nat} {x:Operand} : n0 T Γ N F ⟨dst,.unOp o tt x,ty,pos,af,gd⟩ ops l ws Q t h e=vv T Γ N F (Vf (DU o (ev t x))) dst ops l ws Q t h e:=dC (fun _ _ _ hh=>by cases hh) (by simp only [lG]; first | rfl | (cases DU o (ev t x) <;> rfl))
theorem IF {o:UnOp} {tt:Nat} {x:Operand} : n5 T Γ N F ⟨dst,.unOp o tt x,ty,pos,af,gd⟩ ops l ws Q t h e fs=vw T Γ N F (Vf (DU o (ev t x))) dst (bR ⟨dst,.unOp o tt x,ty,pos,af,gd⟩ (ev t)) ops l ws Q t h e fs:=dD (fun _ _ _ hh=>by cases hh) (by simp only [lG]; first | rfl | (cases DU o (ev t x) <;> rfl))
theorem AV {x:Operand} : n0 T Γ N F ⟨dst,.assign x,ty,pos,af,gd⟩ ops l ws Q t h e=vv T Γ N F (oC T Γ.own ty e dst h (ev t x)) dst ops l ws Q t h e:=dC (fun _ _ _ hh=>by cases hh) rfl
theorem AY {x:Operand} : n5 T Γ N F ⟨dst,.assign x,ty,pos,af,gd⟩ ops l ws Q t h e fs=vw T Γ N F (oC T Γ.own ty e dst h (ev t x)) dst (bR ⟨dst,.assign x,ty,pos,af,gd⟩ (ev t)) ops l ws Q t h e fs:=dD (fun _ _ _ hh=>by cases hh) rfl
theorem vQ {f:Nat} {first caps:List Operand} : n0 T Γ N F ⟨dst,.makeFunc (.func f) first.toArray caps.toArray,ty,pos,af,gd⟩ ops l ws Q t h e=vv T Γ N F (if (first.map (ev t)++caps.map (ev t)).all iN then some ⟨.clo f first.length (first.map (ev t)++caps.map (ev t)),[]⟩ else none) dst ops l ws Q t h e:=dC (fun _ _ _ hh=>by cases hh) rfl
theorem vS {f:Nat} {first caps:List Operand} : n5 T Γ N F ⟨dst,.makeFunc (.func f) first.toArray caps.toArray,ty,pos,af,gd⟩ ops l ws Q t h e fs=vw T Γ N F (if (first.map (ev t)++caps.map (ev t)).all iN then some ⟨.clo f first.length (first.map (ev t)++caps.map (ev t)),[]⟩ else none) dst (bR ⟨dst,.makeFunc (.func f) first.toArray caps.toArray,ty,pos,af,gd⟩ (ev t)) ops l ws Q t h e fs:=dD (fun _ _ _ hh=>by cases hh) rfl
theorem Iv {tt:Nat} {x:Operand} : n0 T Γ N F ⟨dst,.load tt x,ty,pos,af,gd⟩ ops l ws Q t h e=vv T Γ N F (xX (T tt) fun τ=>lN τ h (ev t x)) dst ops l ws Q t h e:=dC (fun _ _ _ hh=>by cases hh) (by simp only [lG]; first | rfl | (cases T tt <;> rfl))
theorem IB {tt:Nat} {x:Operand} : n5 T Γ N F ⟨dst,.load tt x,ty,pos,af,gd⟩ ops l ws Q t h e fs=vw T Γ N F (xX (T tt) fun τ=>lN τ h (ev t x)) dst (bR ⟨dst,.load tt x,ty,pos,af,gd⟩ (ev t)) ops l ws Q t h e fs:=dD (fun _ _ _ hh=>by cases hh) (by simp only [lG]; first | rfl | (cases T tt <;> rfl))
theorem Ez {tt:Nat} {x y:Operand} : n0 T Γ N F ⟨dst,.store tt x y,ty,pos,af,gd⟩ ops l ws Q t h e=vv T Γ N F (xX (T tt) fun τ=>cQ τ h (ev t x) (ev t y)) dst ops l ws Q t h e:=dC (fun _ _ _ hh=>by cases hh) (by simp only [lG]; first | rfl | (cases T tt <;> rfl))
theorem EH {tt:Nat} {x y:Operand} : n5 T Γ N F ⟨dst,.store tt x y,ty,pos,af,gd⟩ ops l ws Q t h e fs=vw T Γ N F (xX (T tt) fun τ=>cQ τ h (ev t x) (ev t y)) dst (bR ⟨dst,.store tt x y,ty,pos,af,gd⟩ (ev t)) ops l ws Q t h e fs:=dD (fun _ _ _ hh=>by cases hh) (by simp only [lG]; first | rfl | (cases T tt <;> rfl))
theorem vR {x:Operand} : n0 T Γ N F ⟨dst,.nilCheck x,ty,pos,af,gd⟩ ops l ws Q t h e=vv T Γ N F (iU h (ev t x)) dst ops l ws Q t h e:=dC (fun _ _ _ hh=>by cases hh) rfl
theorem vT {x:Operand} : n5 T Γ N F ⟨dst,.nilCheck x,ty,pos,af,gd⟩ ops l ws Q t h e fs=vw T Γ N F (iU h (ev t x)) dst (bR ⟨dst,.nilCheck x,ty,pos,af,gd⟩ (ev t)) ops l ws Q t h e fs:=dD (fun _ _ _ hh=>by cases hh) rfl
theorem ua {tt i:Nat} {x:Operand} : n0 T Γ N F ⟨dst,.fieldAddr tt x i,ty,pos,af,gd⟩ ops l ws Q t h e=vv T Γ N F (xX (T tt) fun τ=>dw T τ h i (ev t x)) dst ops l ws Q t h e:=dC (fun _ _ _ hh=>by cases hh) (by simp only [lG]; first | rfl | (cases T tt <;> rfl))
theorem ue {tt i:Nat} {x:Operand} : n5 T Γ N F ⟨dst,.fieldAddr tt x i,ty,pos,af,gd⟩ ops l ws Q t h e fs=vw T Γ N F (xX (T tt) fun τ=>dw T τ h i (ev t x)) dst (bR ⟨dst,.fieldAddr tt x i,ty,pos,af,gd⟩ (ev t)) ops l ws Q t h e fs:=dD (fun _ _ _ hh=>by cases hh) (by simp only [lG]; first | rfl | (cases T tt <;> rfl))
theorem Eu {tt i:Nat} {x:Operand} : n0 T Γ N F ⟨dst,.field tt x i,ty,pos,af,gd⟩ ops l ws Q t h e=vv T Γ N F (xX (T tt) fun τ=>kx T τ i (ev t x)) dst ops l ws Q t h e:=dC (fun _ _ _ hh=>by cases hh) (by simp only [lG]; first | rfl | (cases T tt <;> rfl))
theorem ED {tt i:Nat} {x:Operand} : n5 T Γ N F ⟨dst,.field tt x i,ty,pos,af,gd⟩ ops l ws Q t h e fs=vw T Γ N F (xX (T tt) fun τ=>kx T τ i (ev t x)) dst (bR ⟨dst,.field tt x i,ty,pos,af,gd⟩ (ev t)) ops l ws Q t h e fs:=dD (fun _ _ _ hh=>by cases hh) (by simp only [lG]; first | rfl | (cases T tt <;> rfl))
theorem ub {tt:Nat} {x i:Operand} : n0 T Γ N F ⟨dst,.indexAddr tt x i,ty,pos,af,gd⟩ ops l ws Q t h e=vv T Γ N F (xX (T tt) fun τ=>bJ T τ h (ev t x) (ev t i)) dst ops l ws Q t h e:=dC (fun _ _ _ hh=>by cases hh) (by simp only [lG]; first | rfl | (cases T tt <;> rfl))
theorem uf {tt:Nat} {x i:Operand} : n5 T Γ N F ⟨dst,.indexAddr tt x i,ty,pos,af,gd⟩ ops l ws Q t h e fs=vw T Γ N F (xX (T tt) fun τ=>bJ T τ h (ev t x) (ev t i)) dst (bR ⟨dst,.indexAddr tt x i,ty,pos,af,gd⟩ (ev t)) ops l ws Q t h e fs:=dD (fun _ _ _ hh=>by cases hh) (by simp only [lG]; first | rfl | (cases T tt <;> rfl))
theorem Ev {tt:Nat} {x i:Operand} : n0 T Γ N F ⟨dst,.index tt x i,ty,pos,af,gd⟩ ops l ws Q t h e=vv T Γ N F (xX (T tt) fun τ=>fF T τ (ev t x) (ev t i)) dst ops l ws Q t h e:=dC (fun _ _ _ hh=>by cases hh) (by simp only [lG]; first | rfl | (cases T tt <;> rfl))
theorem EE {tt:Nat} {x i:Operand} : n5 T Γ N F ⟨dst,.index tt x i,ty,pos,af,gd⟩ ops l ws Q t h e fs=vw T Γ N F (xX (T tt) fun τ=>fF T τ (ev t x) (ev t i)) dst (bR ⟨dst,.index tt x i,ty,pos,af,gd⟩ (ev t)) ops l ws Q t h e fs:=dD (fun _ _ _ hh=>by cases hh) (by simp only [lG]; first | rfl | (cases T tt <;> rfl))
theorem Ew {tt:Nat} {x:Operand} {lo hi mx:Option Operand} : n0 T Γ N F ⟨dst,.slice tt x lo hi mx,ty,pos,af,gd⟩ ops l ws Q t h e=vv T Γ N F (xX (T tt) fun τ=>cz T τ h (ev t x) (lo.map (ev t)) (hi.map (ev t)) (mx.map (ev t))) dst ops l ws Q t h e:=dC (fun _ _ _ hh=>by cases hh) (by simp only [lG]; first | rfl | (cases T tt <;> rfl))
theorem EF {tt:Nat} {x:Operand} {lo hi mx:Option Operand} : n5 T Γ N F ⟨dst,.slice tt x lo hi mx,ty,pos,af,gd⟩ ops l ws Q t h e fs=vw T Γ N F (xX (T tt) fun τ=>cz T τ h (ev t x) (lo.map (ev t)) (hi.map (ev t)) (mx.map (ev t))) dst (bR ⟨dst,.slice tt x lo hi mx,ty,pos,af,gd⟩ (ev t)) ops l ws Q t h e fs:=dD (fun _ _ _ hh=>by cases hh) (by simp only [lG]; first | rfl | (cases T tt <;> rfl))
theorem Et {tt:Nat} {ps:List (Nat×Operand)} : n0 T Γ N F ⟨dst,.build tt ps.toArray,ty,pos,af,gd⟩ ops l ws Q t h e=vv T Γ N F (xX (T tt) fun τ=>nn Γ.own T τ h dst (ps.map fun p=>(p.1,ev t p.2))) dst ops l ws Q t h e:=dC (fun _ _ _ hh=>by cases hh) (by simp only [lG]; first | rfl | (cases T tt <;> rfl))
theorem EC {tt:Nat} {ps:List (Nat×Operand)} : n5 T Γ N F ⟨dst,.build tt ps.toArray,ty,pos,af,gd⟩ ops l ws Q t h e fs=vw T Γ N F (xX (T tt) fun τ=>nn Γ.own T τ h dst (ps.map fun p=>(p.1,ev t p.2))) dst (bR ⟨dst,.build tt ps.toArray,ty,pos,af,gd⟩ (ev t)) ops l ws Q t h e fs:=dD (fun _ _ _ hh=>by cases hh) (by simp only [lG]; first | rfl | (cases T tt <;> rfl))
theorem rI {tt len d:Nat} {ps:List (Nat×Operand)} : n0 T Γ N F ⟨some d,.buildSlice tt len ps.toArray,ty,pos,af,gd⟩ ops l ws Q t h e=vv T Γ N F (xX (T tt) fun τ=>du T τ h e d len (ps.map fun p=>(p.1,ev t p.2))) (some d) ops l ws Q t h e:=dC (fun _ _ _ hh=>by cases hh) (by simp only [lG]; first | rfl | (cases T tt <;> rfl))
theorem rJ {tt len d:Nat} {ps:List (Nat×Operand)} : n5 T Γ N F ⟨some d,.buildSlice tt len ps.toArray,ty,pos,af,gd⟩ ops l ws Q t h e fs=vw T Γ N F (xX (T tt) fun τ=>du T τ h e d len (ps.map fun p=>(p.1,ev t p.2))) (some d) (bR ⟨some d,.buildSlice tt len ps.toArray,ty,pos,af,gd⟩ (ev t)) ops l ws Q t h e fs:=dD (fun _ _ _ hh=>by cases hh) (by simp only [lG]; first | rfl | (cases T tt <;> rfl))
theorem uc {tt d:Nat} {x y:Operand} : n0 T Γ N F ⟨some d,.makeSlice tt x y,ty,pos,af,gd⟩ ops l ws Q t h e=vv T Γ N F (xX (T tt) fun τ=>n9 T τ e d (ev t x) (ev t y)) (some d) ops l ws Q t h e:=dC (fun _ _ _ hh=>by cases hh) (by simp only [lG]; first | rfl | (cases T tt <;> rfl))
theorem ug {tt d:Nat} {x y:Operand} : n5 T Γ N F ⟨some d,.makeSlice tt x y,ty,pos,af,gd⟩ ops l ws Q t h e fs=vw T Γ N F (xX (T tt) fun τ=>n9 T τ e d (ev t x) (ev t y)) (some d) (bR ⟨some d,.makeSlice tt x y,ty,pos,af,gd⟩ (ev t)) ops l ws Q t h e fs:=dD (fun _ _ _ hh=>by cases hh) (by simp only [lG]; first | rfl | (cases T tt <;> rfl))
theorem Er {tt d:Nat} : n0 T Γ N F ⟨some d,.alloc tt,ty,pos,af,gd⟩ ops l ws Q t h e=vv T Γ N F (Ar (T tt) tt d e (Γ.hint d)) (some d) ops l ws Q t h e:=dC (fun _ _ _ hh=>by cases hh) (by simp only [lG]; cases T tt with | none=>rfl | some τ=>(dsimp only [Ar]; cases Γ.hint d <;> rfl))
theorem EA {tt d:Nat} : n5 T Γ N F ⟨some d,.alloc tt,ty,pos,af,gd⟩ ops l ws Q t h e fs=vw T Γ N F (Ar (T tt) tt d e (Γ.hint d)) (some d) (bR ⟨some d,.alloc tt,ty,pos,af,gd⟩ (ev t)) ops l ws Q t h e fs:=dD (fun _ _ _ hh=>by cases hh) (by simp only [lG]; cases T tt with | none=>rfl | some τ=>(dsimp only [Ar]; cases Γ.hint d <;> rfl))
theorem yz {tt d:Nat} : n0 T Γ N F ⟨some d,.makeMap tt none,ty,pos,af,gd⟩ ops l ws Q t h e=vv T Γ N F (V7 T (T tt) tt e d) (some d) ops l ws Q t h e:=dC (fun _ _ _ hh=>by cases hh) (by simp only [lG]; first | rfl | (cases T tt <;> rfl))
theorem yD {tt d:Nat} : n5 T Γ N F ⟨some d,.makeMap tt none,ty,pos,af,gd⟩ ops l ws Q t h e fs=vw T Γ N F (V7 T (T tt) tt e d) (some d) (bR ⟨some d,.makeMap tt none,ty,pos,af,gd⟩ (ev t)) ops l ws Q t h e fs:=dD (fun _ _ _ hh=>by cases hh) (by simp only [lG]; first | rfl | (cases T tt <;> rfl))
theorem AX {tt:Nat} {m i:Operand} {ok:Bool} : n0 T Γ N F ⟨dst,.lookup tt m i ok,ty,pos,af,gd⟩ ops l ws Q t h e=vv T Γ N F (xX (T tt) fun τ=>iB T τ h (ev t m) (ev t i) ok) dst ops l ws Q t h e:=dC (fun _ _ _ hh=>by cases hh) (by simp only [lG]; first | rfl | (cases T tt <;> rfl))
theorem A0 {tt:Nat} {m i:Operand} {ok:Bool} : n5 T Γ N F ⟨dst,.lookup tt m i ok,ty,pos,af,gd⟩ ops l ws Q t h e fs=vw T Γ N F (xX (T tt) fun τ=>iB T τ h (ev t m) (ev t i) ok) dst (bR ⟨dst,.lookup tt m i ok,ty,pos,af,gd⟩ (ev t)) ops l ws Q t h e fs:=dD (fun _ _ _ hh=>by cases hh) (by simp only [lG]; first | rfl | (cases T tt <;> rfl))
theorem ud {tt:Nat} {m i x:Operand} : n0 T Γ N F ⟨dst,.mapUpdate tt m i x,ty,pos,af,gd⟩ ops l ws Q t h e=vv T Γ N F (xX (T tt) fun τ=>dn T τ h (ev t m) (ev t i) (ev t x)) dst ops l ws Q t h e:=dC (fun _ _ _ hh=>by cases hh) (by simp only [lG]; first | rfl | (cases T tt <;> rfl))
theorem uh {tt:Nat} {m i x:Operand} : n5 T Γ N F ⟨dst,.mapUpdate tt m i x,ty,pos,af,gd⟩ ops l ws Q t h e fs=vw T Γ N F (xX (T tt) fun τ=>dn T τ h (ev t m) (ev t i) (ev t x)) dst (bR ⟨dst,.mapUpdate tt m i x,ty,pos,af,gd⟩ (ev t)) ops l ws Q t h e fs:=dD (fun _ _ _ hh=>by cases hh) (by simp only [lG]; first | rfl | (cases T tt <;> rfl))
theorem AW {tt:Nat} {m i x:Operand} : n0 T Γ N F ⟨dst,.insert tt m i x,ty,pos,af,gd⟩ ops l ws Q t h e=vv T Γ N F (xX (T tt) fun τ=>dn T τ h (ev t m) (ev t i) (ev t x)) dst ops l ws Q t h e:=dC (fun _ _ _ hh=>by cases hh) (by simp only [lG]; first | rfl | (cases T tt <;> rfl))
theorem AZ {tt:Nat} {m i x:Operand} : n5 T Γ N F ⟨dst,.insert tt m i x,ty,pos,af,gd⟩ ops l ws Q t h e fs=vw T Γ N F (xX (T tt) fun τ=>dn T τ h (ev t m) (ev t i) (ev t x)) dst (bR ⟨dst,.insert tt m i x,ty,pos,af,gd⟩ (ev t)) ops l ws Q t h e fs:=dD (fun _ _ _ hh=>by cases hh) (by simp only [lG]; first | rfl | (cases T tt <;> rfl))
theorem NC {tt d:Nat} {x:Operand} : n0 T Γ N F ⟨some d,.box tt x,ty,pos,af,gd⟩ ops l ws Q t h e=vv T Γ N F (UU (dT h (ev t x)) h tt d e) (some d) ops l ws Q t h e:=dC (fun _ _ _ hh=>by cases hh) (by simp only [lG]; first | rfl | (cases dT h (ev t x) <;> rfl))
theorem ND {tt d:Nat} {x:Operand} : n5 T Γ N F ⟨some d,.box tt x,ty,pos,af,gd⟩ ops l ws Q t h e fs=vw T Γ N F (UU (dT h (ev t x)) h tt d e) (some d) (bR ⟨some d,.box tt x,ty,pos,af,gd⟩ (ev t)) ops l ws Q t h e fs:=dD (fun _ _ _ hh=>by cases hh) (by simp only [lG]; first | rfl | (cases dT h (ev t x) <;> rfl))
theorem yx {a b:Nat} {x:Operand} : n0 T Γ N F ⟨dst,.convert a b x,ty,pos,af,gd⟩ ops l ws Q t h e=vv T Γ N F (QN (T b) (T a) (ev t x)) dst ops l ws Q t h e:=dC (fun _ _ _ hh=>by cases hh) rfl
theorem yB {a b:Nat} {x:Operand} : n5 T Γ N F ⟨dst,.convert a b x,ty,pos,af,gd⟩ ops l ws Q t h e fs=vw T Γ N F (QN (T b) (T a) (ev t x)) dst (bR ⟨dst,.convert a b x,ty,pos,af,gd⟩ (ev t)) ops l ws Q t h e fs:=dD (fun _ _ _ hh=>by cases hh) rfl
theorem yy {x:Nat} {i:Nat} : n0 T Γ N F ⟨dst,.extract (.tmp x) i,ty,pos,af,gd⟩ ops l ws Q t h e=vv T Γ N F (Tp (t x) i) dst ops l ws Q t h e:=dC (fun _ _ _ hh=>by cases hh) rfl
theorem yC {x:Nat} {i:Nat} : n5 T Γ N F ⟨dst,.extract (.tmp x) i,ty,pos,af,gd⟩ ops l ws Q t h e fs=vw T Γ N F (Tp (t x) i) dst (bR ⟨dst,.extract (.tmp x) i,ty,pos,af,gd⟩ (ev t)) ops l ws Q t h e fs:=dD (fun _ _ _ hh=>by cases hh) rfl
theorem Iu {x:Operand} {X5:List Operand} {tys:Array Nat} : n0 T Γ N F ⟨dst,.call ⟨.value x,X5.toArray,tys⟩,ty,pos,af,gd⟩ ops l ws Q t h e=vv T Γ N F (gB Γ h e dst (ev t x) (X5.map (ev t))) dst ops l ws Q t h e:=dC (fun _ _ _ hh=>by cases hh) rfl
theorem IA {x:Operand} {X5:List Operand} {tys:Array Nat} : n5 T Γ N F ⟨dst,.call ⟨.value x,X5.toArray,tys⟩,ty,pos,af,gd⟩ ops l ws Q t h e fs=vw T Γ N F (gB Γ h e dst (ev t x) (X5.map (ev t))) dst (bR ⟨dst,.call ⟨.value x,X5.toArray,tys⟩,ty,pos,af,gd⟩ (ev t)) ops l ws Q t h e fs:=dD (fun _ _ _ hh=>by cases hh) rfl
theorem yw {x:Builtin} {X5:List Operand} {tys:List Nat} : n0 T Γ N F ⟨dst,.call ⟨.builtin x,X5.toArray,tys.toArray⟩,ty,pos,af,gd⟩ ops l ws Q t h e=vv T Γ N F (cm T h e dst x tys (X5.map (ev t))) dst ops l ws Q t h e:=dC (fun _ _ _ hh=>by cases hh) rfl
theorem yA {x:Builtin} {X5:List Operand} {tys:List Nat} : n5 T Γ N F ⟨dst,.call ⟨.builtin x,X5.toArray,tys.toArray⟩,ty,pos,af,gd⟩ ops l ws Q t h e fs=vw T Γ N F (cm T h e dst x tys (X5.map (ev t))) dst (bR ⟨dst,.call ⟨.builtin x,X5.toArray,tys.toArray⟩,ty,pos,af,gd⟩ (ev t)) ops l ws Q t h e fs:=dD (fun _ _ _ hh=>by cases hh) rfl
theorem cI {o:Array Oper} {A:Prop} (h1:A8 o fs=true) (h2:A):A8 o fs=true∧A:=⟨h1,h2⟩
theorem ai {b:Bool} {g:Nat} {x y:Code} (h1:b=true→cT T Γ N F (.code x::ws) Q .normal (dP t g (.bool true)) h e) (h2:b=false→cT T Γ N F (.code y::ws) Q .normal (dP t g (.bool false)) h e):HA T Γ N F (.bool b) g x y ws Q t h e:=by rw [PU]; exact ⟨h1,h2⟩
theorem bK {b:Bool} {g:Nat} {o:Oper} (h1:b=true→n0 T Γ N F o ops l ws Q (dP t g (.bool true)) h e) (h2:b=false→kL T Γ N F ops l ws Q (eE (dP t g (.bool false)) o.dst .skp) h e):tY T Γ N F (.bool b) g true o ops l ws Q t h e:=by rw [PV]; exact ⟨h1,h2⟩
theorem bj {b:Bool} {g:Nat} {o:Oper} (h1:b=true→kL T Γ N F ops l ws Q (eE (dP t g (.bool true)) o.dst .skp) h e) (h2:b=false→n0 T Γ N F o ops l ws Q (dP t g (.bool false)) h e):tY T Γ N F (.bool b) g false o ops l ws Q t h e:=by rw [MG]; exact ⟨h1,h2⟩
theorem xa {b:Bool} {g:Nat} {o:Oper} (h1:b=true→n5 T Γ N F o ops l ws Q (dP t g (.bool true)) h e fs) (h2:b=false→kM T Γ N F ops l ws Q (eE (dP t g (.bool false)) o.dst .skp) h e (fs++[⟨[],true⟩])):tZ T Γ N F (.bool b) g true o ops l ws Q t h e fs:=by rw [PW]; exact ⟨h1,h2⟩
theorem SK {b:Bool} {g:Nat} {o:Oper} (h1:b=true→kM T Γ N F ops l ws Q (eE (dP t g (.bool true)) o.dst .skp) h e (fs++[⟨[],true⟩])) (h2:b=false→n5 T Γ N F o ops l ws Q (dP t g (.bool false)) h e fs):tZ T Γ N F (.bool b) g false o ops l ws Q t h e fs:=by rw [MH]; exact ⟨h1,h2⟩
def To (mode:Mode) (T:Nat→Option Ty) (lent:Option (D×Row)) (rs:List ResultVar) (r:RK×Option Row):Kt:=fun x t h e=>U1 mode T lent rs x t h e r
theorem yN {mode:Mode} {lent:Option (D×Row)} {rs:List ResultVar} {r:RK×Option Row} : To mode T lent rs r .normal t h e=(gG mode T lent rs ⟨t,h,e⟩=some r):=Eq.trans rfl rfl
theorem cX {mode:Mode} {lent:Option (D×Row)} {rs:List ResultVar} {r:RK×Option Row} : To mode T lent rs r .ret t h e=(gG mode T lent rs ⟨t,h,e⟩=some r):=Eq.trans rfl rfl
theorem ay {mode:Mode} {fn:Func} {c:Code} {n:Nat} {rs:List ResultVar} {args:List D} {r:RK×Option Row} (hb:fn.body=some c) (hn:fn.ntmps=n) (hr:fn.results=rs.toArray) (hw:cT T Γ n F [.code c] (To mode T none rs r) .normal (Lc args) UA 0) (hpk:n≤1000000:=by exact Nat.le_of_ble_eq_true rfl):aX mode T Γ F fn none args=some r:=by
 refine S0 ?_ (by rw [hn]; exact hpk)
 unfold XG
 rw [hb,hn,hr]
 exact hw
def Wl (r:Row) (i:Nat):Option Row:=if i=0 then some r else none
theorem Kv (r:Row) (i:Nat):Wl r i=if i=0 then some r else none:=Eq.trans rfl rfl
theorem nL {mode:Mode} {fn:Func} {c:Code} {n:Nat} {rs:List ResultVar} {d0:D} {ty:Nat} {cells:List D} {fz lst:Bool} {args:List D} {r:RK×Option Row} (hb:fn.body=some c) (hn:fn.ntmps=n) (hr:fn.results=rs.toArray)
  (hw:cT T Γ n F [.code c] (To mode T (some (d0,⟨0,ty,cells,fz,lst,false⟩)) rs r) .normal (Lc (d0::args)) (Wl ⟨0,ty,cells,fz,lst,false⟩) 1) (hpk:n≤1000000:=by exact Nat.le_of_ble_eq_true rfl):aX mode T Γ F fn (some (d0,⟨0,ty,cells,fz,lst,false⟩)) args=some r:=by
 refine S0 ?_ (by rw [hn]; exact hpk)
 unfold XG
 rw [hb,hn,hr]
 exact hw
end
end Go.Proofs.YtpkahnkoecbndaaGreatDoor.Am
namespace Go.Proofs.YtpkahnkoecbndaaGreatDoor.P
open Go.RowKit
set_option linter.unusedSimpArgs false
set_option linter.unusedVariables false
def FU:Nat:=1000000000000000000000000
def lP {σ ρ:Type} (body:σ→Option (σ⊕ρ)):Nat→σ→Option ρ
 | 0,_=>none
 | n+1,s =>
  match body s with
  | some (.inl s')=>lP body n s'
  | some (.inr r)=>some r
  | none=>none
def a8 {σ ρ:Type} (body:σ→Option (σ⊕ρ)) (s:σ):Option ρ:=lP body FU s
theorem Rm {σ ρ:Type} {body:σ→Option (σ⊕ρ)} (I:σ→Prop) (μ:σ→Nat) (Q:ρ→Prop)
  (hstep : ∀ s,I s→(∃ s',body s=some (.inl s')∧I s'∧μ s'<μ s)∨(∃ r,body s=some (.inr r)∧Q r)) : ∀ (n:Nat) (s:σ),I s→μ s<n→∃ r,lP body n s=some r∧Q r:=by
 intro n
 induction n with
 | zero=>intro s _ h; omega
 | succ n ih =>
  intro s hI hμ
  rcases hstep s hI with ⟨s',h1,h2,h3⟩ | ⟨r,h1,h2⟩
  ·obtain ⟨r,h4,h5⟩:=ih s' h2 (by omega)
   exact ⟨r,by simp only [lP,h1]; exact h4,h5⟩
  ·exact ⟨r,by simp only [lP,h1],h2⟩
theorem ja {σ ρ:Type} {body:σ→Option (σ⊕ρ)} (I:σ→Prop) (μ:σ→Nat) (Q:ρ→Prop) {s:σ} (hI:I s) (hμ:μ s<FU)
  (hstep : ∀ s,I s→(∃ s',body s=some (.inl s')∧I s'∧μ s'<μ s)∨(∃ r,body s=some (.inr r)∧Q r)) : ∃ r,a8 body s=some r∧Q r:=Rm I μ Q hstep FU s hI hμ
def idx {α:Type} (l:List α) (i:Int):Option α:=if 0≤i∧i<l.length then l[i.toNat]? else none
def TL (s:ByteArray) (i:Int):Option Int:=if 0≤i then (s[i.toNat]?).map fun b=>(b.toNat:Int) else none
def CN {α:Type} (l:List α) (a b:Int):Option (List α):=if 0≤a∧a≤b∧b≤l.length then some ((l.drop a.toNat).take (b.toNat - a.toNat)) else none
def L5 {α:Type} (bytes:Nat) (n c:Int) (z:α):Option (List α):=if 0≤n∧n≤c∧c≤maxLen∧c.toNat*bytes≤140737488355328 then some (List.replicate n.toNat z) else none
def iO {α:Type} (bytes:Nat) (l m:List α):Option (List α):=if l.length+m.length≤maxLen∧(l.length+m.length)*bytes≤140737488355328 then some (l++m) else none
def xn (k:IntKind) (x y:Int):Option Int:=if y=0 then none else some (k.wrap (x.tdiv y))
def vn (_:IntKind) (x y:Int):Option Int:=if y=0 then none else some (x.tmod y)
def DT (k:IntKind) (x y:Int):Option Int:=if y<0 then none else some (k.wrap (x*2 ^ (min y.toNat k.bits)))
def yd (k:IntKind) (x y:Int):Option Int:=if y<0 then none else some (x.fdiv (2 ^ (min y.toNat k.bits)))
def ng (op:BinOp) (k:IntKind) (x y:Int):Int :=
 let a:=BitVec.ofInt k.bits x
 let b:=BitVec.ofInt k.bits y
 match op with
 | .and=>k.wrap (a &&& b).toNat
 | .or=>k.wrap (a ||| b).toNat
 | .xor=>k.wrap (a ^^^ b).toNat
 | _=>k.wrap (a &&& ~~~b).toNat
def Tr {α:Type} : List (Int×α)→Int→Bool
 | [],_=>false
 | (k,_)::m,n=>k==n||Tr m n
def gn (l:List Int):List Int:=l.mergeSort fun x y=>decide (x≤y)
theorem fA (l:List Int):(gn l).length=l.length:=List.length_mergeSort l
theorem yg:gn []=[]:=by simp [gn]
theorem ae {α β:Type} {o:Option α} {f:α→Option β} {r:β} (h:o.bind f=some r) : ∃ a,o=some a∧f a=some r:=by
 cases o with
 | none=>cases h
 | some a=>exact ⟨a,rfl,h⟩
theorem ak {α:Type} {b:Bool} {x y r:α} (hb:b=true) (h:(if b=true then x else y)=r):x=r:=by rw [if_pos hb] at h; exact h
theorem aj {α:Type} {b:Bool} {x y r:α} (hb:b=false) (h:(if b=true then x else y)=r):y=r:=by rw [hb] at h; simpa using h
end Go.Proofs.YtpkahnkoecbndaaGreatDoor.P
namespace Go.Proofs.YtpkahnkoecbndaaGreatDoor.Am
open Go.RowKit Go.Proofs.YtpkahnkoecbndaaGreatDoor.P
set_option linter.unusedSimpArgs false
set_option linter.unusedVariables false
structure jH (α:Type) where
 cells:α→List D
 size:Nat
 len : ∀ x,(cells x).length=size
 pos:0<size
 inj : ∀ x y,cells x=cells y→x=y
def ab {α:Type} (e:jH α):List α→List D
 | []=>[]
 | x::l=>e.cells x++ab e l
section
variable {α β:Type} (e:jH α)
theorem v8:ab e []=[]:=rfl
theorem aS (x:α) (l:List α):ab e (x::l)=e.cells x++ab e l:=rfl
theorem fY : ∀ l m:List α,ab e (l++m)=ab e l++ab e m
 | [],m=>rfl
 | x::l,m=>by rw [List.cons_append,aS,aS,fY l m,List.append_assoc]
theorem cW : ∀ l:List α,(ab e l).length=l.length*e.size
 | []=>by simp [ab]
 | x::l=>by rw [aS,List.length_append,cW l,e.len,List.length_cons,Nat.succ_mul]; omega
theorem tu : ∀ (l:List α) (i:Nat),(ab e l).drop (i*e.size)=ab e (l.drop i)
 | l,0=>by simp
 | [],i+1=>by simp [ab]
 | x::l,i+1=>by
  rw [aS,List.drop_succ_cons,← tu l i,List.drop_append,e.len,List.drop_eq_nil_of_le (by rw [e.len,Nat.succ_mul]; omega),List.nil_append]
  congr 1
  rw [Nat.succ_mul]; omega
theorem fM : ∀ (l:List α) (i:Nat),(ab e l).take (i*e.size)=ab e (l.take i)
 | l,0=>by simp [ab]
 | [],i+1=>by simp [ab]
 | x::l,i+1=>by
  rw [aS,List.take_succ_cons,aS,List.take_append,e.len,List.take_of_length_le (by rw [e.len,Nat.succ_mul]; omega),← fM l i]
  congr 2
  rw [Nat.succ_mul]; omega
theorem rQ : ∀ l m:List α,ab e l=ab e m→l=m
 | [],[],_=>rfl
 | [],y::m,h=>by
  have:=congrArg List.length h
  have hp:=e.pos
  rw [aS,List.length_append,e.len] at this
  simp [ab] at this
  omega
 | x::l,[],h=>by
  have:=congrArg List.length h
  have hp:=e.pos
  rw [aS,List.length_append,e.len] at this
  simp [ab] at this
  omega
 | x::l,y::m,h=>by
  rw [aS,aS] at h
  obtain ⟨h1,h2⟩:=List.append_inj h (by rw [e.len,e.len])
  rw [e.inj _ _ h1,rQ l m h2]
theorem Bh : ∀ (n:Nat) (x:α),nH n (e.cells x)=ab e (List.replicate n x)
 | 0,x=>by simp [nH,ab]
 | n+1,x=>by rw [List.replicate_succ,aS,← Bh n x]; simp [nH,List.replicate_succ]
end
def eI (k:IntKind):jH Int:=⟨fun n=>[.int k n],1,fun _=>rfl,by decide,fun x y h=>by simpa using h⟩
def yG:jH Bool:=⟨fun n=>[.bool n],1,fun _=>rfl,by decide,fun x y h=>by simpa using h⟩
def lM:jH ByteArray:=⟨fun n=>[.str n],1,fun _=>rfl,by decide,fun x y h=>by simpa using h⟩
def oS {α:Type} (e:jH α):jH (List α):=⟨fun l=>[.sl false false l.length (ab e l)],1,fun _=>rfl,by decide,fun x y h=>by
 simp only [List.cons.injEq,D.sl.injEq,true_and,and_true] at h
 exact rQ e _ _ h.2⟩
def kv {α β:Type} (e:jH α) (f:jH β):jH (α×β):=⟨fun x=>e.cells x.1++f.cells x.2,e.size+f.size,fun x=>by rw [List.length_append,e.len,f.len],Nat.lt_of_lt_of_le e.pos (Nat.le_add_right _ _),fun x y h=>by
 obtain ⟨h1,h2⟩:=List.append_inj h (by rw [e.len,e.len])
 exact Prod.ext (e.inj _ _ h1) (f.inj _ _ h2)⟩
def zC {α β:Type} (e:jH β) (f:α→β) (hf : ∀ x y,f x=f y→x=y):jH α:=⟨fun x=>e.cells (f x),e.size,fun x=>e.len _,e.pos,fun x y h=>hf _ _ (e.inj _ _ h)⟩
structure Arg (α:Type) where
 d:α→D
 inj : ∀ x y,d x=d y→x=y
def aI (k:IntKind):Arg Int:=⟨fun n => .int k n,fun x y h=>by simpa using h⟩
def VL:Arg Bool:=⟨fun n => .bool n,fun x y h=>by simpa using h⟩
def S7:Arg ByteArray:=⟨fun n => .str n,fun x y h=>by simpa using h⟩
def ie {α:Type} (e:jH α):Arg (List α):=⟨fun l => .sl false false l.length (ab e l),fun x y h=>by
 simp only [D.sl.injEq,true_and] at h
 exact rQ e _ _ h.2⟩
def dO {α:Type} (e:jH α):Arg α:=⟨fun x => .agg (e.cells x),fun x y h=>e.inj _ _ (by simpa using h)⟩
theorem Xj (k:IntKind) (n:Int):(aI k).d n = .int k n:=Eq.trans rfl rfl
theorem UO {α:Type} (e:jH α) (x:α):(dO e).d x = .agg (e.cells x):=Eq.trans rfl rfl
theorem vU (k:IntKind) (n:Int):(eI k).cells n=[.int k n]:=Eq.trans rfl rfl
theorem yH (n:Bool):yG.cells n=[.bool n]:=Eq.trans rfl rfl
theorem Ba (n:ByteArray):lM.cells n=[.str n]:=Eq.trans rfl rfl
theorem xq {α:Type} (e:jH α) (l:List α):(oS e).cells l=[.sl false false l.length (ab e l)]:=Eq.trans rfl rfl
structure l9 (α:Type) where
 ds:α→List D
 inj : ∀ x y,ds x=ds y→x=y
def S2:l9 Unit:=⟨fun _=>[],fun _ _ _=>rfl⟩
def ef {α:Type} (a:Arg α):l9 α:=⟨fun x=>[a.d x],fun x y h=>a.inj _ _ (by simpa using h)⟩
def eg {α β:Type} (a:Arg α) (b:l9 β):l9 (α×β):=⟨fun x=>a.d x.1::b.ds x.2,fun x y h=>by
 simp only [List.cons.injEq] at h
 exact Prod.ext (a.inj _ _ h.1) (b.inj _ _ h.2)⟩
noncomputable def eZ {α β:Type} (A:l9 α) (F:α→Option β) (R:β→RK):Option (D×Row)→List D→Option (RK×Option Row):=fun lent ds =>
 match lent with
 | none=>open Classical in if h : ∃ a,A.ds a=ds then (F (Classical.choose h)).map fun r=>(R r,none) else none
 | some _=>none
theorem aR {α β:Type} (A:l9 α) (F:α→Option β) (R:β→RK) (a:α):eZ A F R none (A.ds a)=(F a).map fun r=>(R r,none):=by
 have h : ∃ b,A.ds b=A.ds a:=⟨a,rfl⟩
 simp only [eZ]
 rw [dif_pos h,A.inj _ _ (Classical.choose_spec h)]
theorem pe {α β:Type} {A:l9 α} {F:α→Option β} {R:β→RK} {lent:Option (D×Row)} {ds:List D} {rk:RK} {out:Option Row} (h:eZ A F R lent ds=some (rk,out)):lent=none∧out=none∧∃ a r,ds=A.ds a∧F a=some r∧rk=R r:=by
 unfold eZ at h
 split at h
 ·split at h
  ·rename_i he
   rw [Option.map_eq_some_iff] at h
   obtain ⟨r,h1,h2⟩:=h
   simp only [Prod.mk.injEq] at h2
   obtain ⟨rfl,rfl⟩:=h2
   exact ⟨rfl,rfl,_,r,(Classical.choose_spec he).symm,h1,rfl⟩
  ·cases h
 ·cases h
structure bW (P:Program) (f:FuncId) (G:Option (D×Row)→List D→Option (RK×Option Row)):Prop where
 calls : ∀ lent X5 rk out,G lent X5=some (rk,out)→oA P f lent X5 rk out
 callable:ic P f
theorem bW.of {P:Program} {T:Nat→Option Ty} {Γ:Env} (hT:kT P T) (hΓ:b7 P Γ) (hm:P.follows .mixedOrders=true) {α β:Type} {A:l9 α} {F:α→Option β} {R:β→RK} {mode:Mode} {f:FuncId} {fn:Func} (hf:P.funcs[f]? = some fn) (hok:(match fn.body with | some c=>codeOk c | none=>true)=true)
  (hc:(fn.name == "runtime.NumGoroutine")=false∧fn.body.isNone=false) (hn : ∀ a,(A.ds a).length≤fn.ntmps) (h : ∀ a r,F a=some r→aX mode T Γ FU fn none (A.ds a)=some (R r,none)):bW P f (eZ A F R) where
 calls lent X5 rk out hg:=by
  obtain ⟨rfl,rfl,a,r,rfl,hr,rfl⟩:=pe hg
  exact ki hT hΓ hm hf hok (hn a) rfl (h a r hr)
 callable:=⟨fn,hf,hc⟩
theorem b7.add {P:Program} {Γ:Env} (hΓ:b7 P Γ) {f:Nat} {G:Option (D×Row)→List D→Option (RK×Option Row)} (h:bW P f G) (l:Bool):b7 P (Am.ext Γ f l G):=hΓ.ext h.calls h.callable
section
variable {T:Nat→Option Ty} {Γ:Env} {N e:Nat} {ws:List W} {Q:Kt} {t:Nat→D} {h:Nat→Option Row}
def LK {σ ρ:Type} (Rel:σ→(Nat→D)→(Nat→Option Row)→Nat→Prop) (RelX:ρ→Ex→(Nat→D)→(Nat→Option Row)→Nat→Prop) (c:σ⊕ρ):Kt:=fun x t h e =>
 match x with
 | .normal=>∃ s',c = .inl s'∧Rel s' t h e
 | x=>∃ o,c = .inr o∧RelX o x t h e
theorem aK {σ ρ:Type} {Rel:σ→(Nat→D)→(Nat→Option Row)→Nat→Prop} {RelX:ρ→Ex→(Nat→D)→(Nat→Option Row)→Nat→Prop} {c:σ⊕ρ} : LK Rel RelX c .normal t h e = ∃ s',c = .inl s'∧Rel s' t h e:=Eq.trans rfl rfl
theorem bk {σ ρ:Type} {Rel:σ→(Nat→D)→(Nat→Option Row)→Nat→Prop} {RelX:ρ→Ex→(Nat→D)→(Nat→Option Row)→Nat→Prop} {c:σ⊕ρ} {n:Nat} : LK Rel RelX c (.exit n) t h e = ∃ o,c = .inr o∧RelX o (.exit n) t h e:=Eq.trans rfl rfl
theorem dQ {σ ρ:Type} {Rel:σ→(Nat→D)→(Nat→Option Row)→Nat→Prop} {RelX:ρ→Ex→(Nat→D)→(Nat→Option Row)→Nat→Prop} {c:σ⊕ρ} : LK Rel RelX c .ret t h e = ∃ o,c = .inr o∧RelX o .ret t h e:=Eq.trans rfl rfl
theorem aD {σ ρ:Type} {body:σ→Option (σ⊕ρ)} {b:Code} (Rel:σ→(Nat→D)→(Nat→Option Row)→Nat→Prop) (RelX:ρ→Ex→(Nat→D)→(Nat→Option Row)→Nat→Prop) {s0:σ} {out:ρ} (hL:a8 body s0=some out) (h0:Rel s0 t h e)
  (hstep : ∀ s t h e,Rel s t h e→∀ c,body s=some c→cT T Γ N FU [.code b] (LK Rel RelX c) .normal t h e)
  (hexit : ∀ x t h e,RelX out x t h e→cT T Γ N FU ws Q x t h e):Of T Γ N FU b ws Q t h e:=by
 have key : ∀ (n:Nat) (s:σ) (t:Nat→D) (h:Nat→Option Row) (e:Nat),Rel s t h e→lP body n s=some out→∃ x s',iter (gV T Γ N FU b) n ⟨t,h,e⟩=some (x,s')∧cT T Γ N FU ws Q x s'.t s'.h s'.e:=by
  intro n
  induction n with
  | zero=>intro s t h e _ hi; cases hi
  | succ n ih =>
   intro s t h e hR hi
   simp only [lP] at hi
   cases hb:body s with
   | none=>rw [hb] at hi; cases hi
   | some c =>
    rw [hb] at hi
    obtain ⟨x,s1,h1,h2⟩:=SZ _ _ _ _ _ (show K3 T Γ N FU b t h e (LK Rel RelX c) from hstep s t h e hR c hb)
    simp only [iter,h1]
    cases x with
    | normal =>
     obtain ⟨s',rfl,h4⟩:=h2
     exact ih s' s1.t s1.h s1.e h4 hi
    | exit m =>
     obtain ⟨o,rfl,h4⟩:=h2
     simp only [Option.some.injEq] at hi
     subst hi
     exact ⟨_,_,rfl,hexit _ _ _ _ h4⟩
    | ret =>
     obtain ⟨o,rfl,h4⟩:=h2
     simp only [Option.some.injEq] at hi
     subst hi
     exact ⟨_,_,rfl,hexit _ _ _ _ h4⟩
 exact key FU s0 t h e h0 hL
theorem xb {d:D} {g:Nat} {A B A' B':(Nat→D)→Prop} (hk:MP d t g A B) (h1 : ∀ t,A t→A' t) (h2 : ∀ t,B t→B' t):MP d t g A' B':=by
 cases d with
 | bool b=>exact ⟨fun hb=>h1 _ (hk.1 hb),fun hb=>h2 _ (hk.2 hb)⟩
 | _=>exact hk
theorem C4 {d:D} {g:Nat} {A B S A' B' S':(Nat→D)→Prop} (hk:wpS d t g A B S) (h1 : ∀ t,A t→A' t) (h2 : ∀ t,B t→B' t) (h3 : ∀ t,S t→S' t):wpS d t g A' B' S':=by
 unfold wpS at hk ⊢
 split at hk
 ·exact h3 _ hk
 ·exact xb hk h1 h2
theorem Cd {α:Type} {x:Option α} {K K':α→Prop} (hk:sE x K) (h1 : ∀ a,K a→K' a):sE x K':=by
 cases x with
 | none=>exact hk
 | some a=>exact h1 a hk
theorem K0 {ops:List Oper} {gd:Option (Nat×Bool)} {A B A' B':(Nat→D)→Prop} (hk:SW ops t gd A B) (h1 : ∀ t,A t→A' t) (h2 : ∀ t,B t→B' t):SW ops t gd A' B':=by
 unfold SW at hk ⊢
 split
 ·exact h1 _ hk
 ·rename_i j want
  refine Cd hk fun g hg=>C4 hg ?_ ?_ h2
  ·intro t ht; cases want <;> simp_all
  ·intro t ht; cases want <;> simp_all
theorem xd {o:Oper} {K K':(Nat→D)→dB→Prop} (hk:SU T Γ e o t h K) (h1 : ∀ t E,K t E→K' t E):SU T Γ e o t h K':=by
 unfold SU at hk ⊢
 split
 ·rename_i ho
  rw [ho] at hk
  exact xb hk (fun _ h=>h1 _ _ h) (fun _ h=>h1 _ _ h)
 ·rename_i hne
  split at hk
  ·rename_i c a b ho; exact absurd ho (hne _ _ _)
  ·exact Cd hk (fun _ h=>h1 _ _ h)
theorem tL {ops:List Oper} {K K':(Nat→D)→(Nat→Option Row)→Prop} (h1 : ∀ t h,K t h→K' t h) : ∀ (l:List Oper) (t:Nat→D) (h:Nat→Option Row),CG T Γ N e ops l t h K→CG T Γ N e ops l t h K'
 | [],t,h,hk=>h1 _ _ hk
 | o::l,t,h,hk=>by
  unfold CG at hk ⊢
  exact ⟨hk.1,K0 hk.2 (fun t ht=>xd ht fun t E hE=>tL h1 l _ _ hE) (fun t ht=>tL h1 l _ _ ht)⟩
theorem tI {ops:List Oper} {K K':(Nat→D)→(Nat→Option Row)→List kn→Prop} (h1 : ∀ t h fs,K t h fs→K' t h fs) : ∀ (l:List Oper) (t:Nat→D) (h:Nat→Option Row) (fs:List kn),runK T Γ N e ops l t h fs K→runK T Γ N e ops l t h fs K'
 | [],t,h,fs,hk=>h1 _ _ _ hk
 | o::l,t,h,fs,hk=>by
  unfold runK at hk ⊢
  exact ⟨hk.1,K0 hk.2 (fun t ht=>xd ht fun t E hE=>tI h1 l _ _ _ hE) (fun t ht=>tI h1 l _ _ _ ht)⟩
theorem SY {ops:Array Oper} {draw:Bool} {K K':(Nat→D)→(Nat→Option Row)→Prop} (hk:W7 T Γ N ops draw t h e K) (h1 : ∀ t h,K t h→K' t h):W7 T Γ N ops draw t h e K':=by
 unfold W7 at hk ⊢
 cases draw with
 | true=>exact tI (fun t h fs hh=>⟨hh.1,h1 _ _ hh.2⟩) _ _ _ _ hk
 | false=>exact tL h1 _ _ _ hk
theorem P1 {F:Nat} : ∀ (c:Code) (t:Nat→D) (h:Nat→Option Row) (e:Nat) (K K':Kt),K3 T Γ N F c t h e K→(∀ x t h e,K x t h e→K' x t h e)→K3 T Γ N F c t h e K':=by
 intro c
 induction c with
 | skip=>intro t h e K K' hk hm; exact hm _ _ _ _ hk
 | region i ops draw=>intro t h e K K' hk hm; exact SY hk fun t h hh=>hm _ _ _ _ hh
 | seq a b iha ihb =>
  intro t h e K K' hk hm
  refine iha _ _ _ _ _ hk fun x t h e hx => ?_
  cases x with
  | normal=>exact ihb _ _ _ _ _ hx hm
  | exit n=>exact hm _ _ _ _ hx
  | ret=>exact hm _ _ _ _ hx
 | cond c x y ihx ihy =>
  intro t h e K K' hk hm
  unfold K3 at hk ⊢
  cases c with
  | tmp g=>exact xb hk (fun t ht=>ihx _ _ _ _ _ ht hm) (fun t ht=>ihy _ _ _ _ _ ht hm)
  | const v =>
   cases v with
   | bool b =>
    cases b with
    | true=>exact ihx _ _ _ _ _ hk hm
    | false=>exact ihy _ _ _ _ _ hk hm
   | _=>exact hk
  | _=>exact hk
 | block id b ih =>
  intro t h e K K' hk hm
  refine ih _ _ _ _ _ hk fun x t h e hx => ?_
  cases x with
  | normal=>exact hm _ _ _ _ hx
  | ret=>exact hm _ _ _ _ hx
  | exit n =>
   unfold Qw at hx ⊢
   simp only at hx ⊢
   split at hx
   ·rename_i hn; rw [if_pos hn]; exact hm _ _ _ _ hx
   ·rename_i hn; rw [if_neg hn]; exact hm _ _ _ _ hx
 | loop b ih =>
  intro t h e K K' hk hm
  obtain ⟨x,s,h1,h2⟩:=hk
  exact ⟨x,s,h1,hm _ _ _ _ h2⟩
 | exit id=>intro t h e K K' hk hm; exact hm _ _ _ _ hk
 | ret=>intro t h e K K' hk hm; exact hm _ _ _ _ hk
 | _=>intro t h e K K' hk; exact hk.elim
def CK {σ:Type} (J:σ→(Nat→D)→(Nat→Option Row)→Nat→Prop) (P:σ→Prop) (R:Kt):Kt:=fun x t h e =>
 match x with
 | .normal=>∃ s,P s∧J s t h e
 | x=>R x t h e
theorem an {σ:Type} {J:σ→(Nat→D)→(Nat→Option Row)→Nat→Prop} {P:σ→Prop} {R:Kt} : CK J P R .normal t h e = ∃ s,P s∧J s t h e:=Eq.trans rfl rfl
end
end Go.Proofs.YtpkahnkoecbndaaGreatDoor.Am
namespace Go.Proofs.YtpkahnkoecbndaaGreatDoor.Am
open Go.RowKit Go.Proofs.YtpkahnkoecbndaaGreatDoor.P
set_option linter.unusedSimpArgs false
set_option linter.unusedVariables false
section
variable {h:Nat→Option Row}
theorem Eh {k:IntKind} {n:Int} : canon (.int k n) = .int k n:=Eq.trans rfl rfl
theorem AP {b:Bool} : canon (.bool b) = .bool b:=Eq.trans rfl rfl
theorem Ej {b:ByteArray} : canon (.str b) = .str b:=Eq.trans rfl rfl
theorem H4 {a b:Bool} {n:Nat} {xs:List D} : canon (.sl a b n xs) = .sl false false n xs:=Eq.trans rfl rfl
theorem AM {k:IntKind} {n:Int} : fe (.int k n) = .int k n:=Eq.trans rfl rfl
theorem yu {b:Bool} : fe (.bool b) = .bool b:=Eq.trans rfl rfl
theorem AO {b:ByteArray} : fe (.str b) = .str b:=Eq.trans rfl rfl
theorem Eg {a b:Bool} {n:Nat} {xs:List D} : fe (.sl a b n xs) = .sl false false n xs:=Eq.trans rfl rfl
theorem AL {xs:List D} : fe (.agg xs) = .agg (xs.map canon):=Eq.trans rfl rfl
def Tf (x s o n:Nat):Option Row→Option (D×List Nat)
 | some r=>if o+n*s≤r.cells.length then some (.sl false false n ((r.cells.drop o).take (n*s)),[x]) else none
 | none=>none
theorem Ih {x s o n:Nat} {r:Row} : Tf x s o n (some r)=if o+n*s≤r.cells.length then some (.sl false false n ((r.cells.drop o).take (n*s)),[x]) else none:=Eq.trans rfl rfl
def VP (x o:Nat):Option Row→Option (D×List Nat)
 | some r=>if o≤r.cells.length then some (.ip (r.cells.drop o),[x]) else none
 | none=>none
theorem Im {x o:Nat} {r:Row} : VP x o (some r)=if o≤r.cells.length then some (.ip (r.cells.drop o),[x]) else none:=Eq.trans rfl rfl
theorem Ib {k:IntKind} {n:Int} : bT h (.int k n)=some (.int k n,[]):=Eq.trans rfl rfl
theorem El {b:Bool} : bT h (.bool b)=some (.bool b,[]):=Eq.trans rfl rfl
theorem Ig {b:ByteArray} : bT h (.str b)=some (.str b,[]):=Eq.trans rfl rfl
theorem Ny {a b:Bool} {n:Nat} {xs:List D} : bT h (.sl a b n xs)=some (.sl false false n xs,[]):=Eq.trans rfl rfl
theorem H7 {xs:List D} : bT h (.agg xs)=some (.agg (xs.map canon),[]):=Eq.trans rfl rfl
theorem Nw {xs:List D} : bT h (.ip xs)=some (.ip xs,[]):=Eq.trans rfl rfl
theorem Nv {f:Nat} : bT h (.fn f)=some (.fn f,[]):=Eq.trans rfl rfl
theorem H9 {x v s o n:Nat} : bT h (.buf x v s o n)=Tf x s o n (live h x v):=by
 simp only [bT,aU,dk]
 cases live h x v with
 | none=>rfl
 | some r=>by_cases hc:o+n*s≤r.cells.length <;> simp [Tf,hc,canon]
theorem Ie {x v o:Nat} : bT h (.ptr x v o)=VP x o (live h x v):=by
 simp only [bT,aU]
 cases live h x v with
 | none=>rfl
 | some r=>simp only [VP]
theorem QQ {k:IntKind} {n:Int} : dT h (.int k n)=some ([.int k n],[]):=Eq.trans rfl rfl
theorem NB {b:Bool} : dT h (.bool b)=some ([.bool b],[]):=Eq.trans rfl rfl
theorem QR {b:ByteArray} : dT h (.str b)=some ([.str b],[]):=Eq.trans rfl rfl
theorem Ua {a b:Bool} {n:Nat} {xs:List D} : dT h (.sl a b n xs)=some ([.sl a b n xs],[]):=Eq.trans rfl rfl
theorem QO {xs:List D} : dT h (.agg xs)=some (xs,[]):=Eq.trans rfl rfl
def Xr:Option (D×List Nat)→Option (List D×List Nat)
 | some (d,fr)=>some ([d],fr)
 | none=>none
theorem It {d:D} {fr:List Nat} : Xr (some (d,fr))=some ([d],fr):=Eq.trans rfl rfl
theorem QP {x v s o n:Nat} : dT h (.buf x v s o n)=Xr (Tf x s o n (live h x v)):=by
 simp only [dT,dk]
 cases live h x v with
 | none=>rfl
 | some r=>by_cases hc:o+n*s≤r.cells.length <;> simp [Tf,Xr,hc]
def Xn (h:Nat→Option Row):Option (D×List Nat)→Option dB
 | some (d,fr)=>some ⟨d,iL h fr⟩
 | none=>none
theorem Ij {d:D} {fr:List Nat} : Xn h (some (d,fr))=some ⟨d,iL h fr⟩:=Eq.trans rfl rfl
theorem M4 {x v s o n:Nat} : gF h (.buf x v s o n)=Xn h (Tf x s o n (live h x v)):=by
 simp only [gF,nh,dk]
 cases live h x v with
 | none=>rfl
 | some r=>by_cases hc:o+n*s≤r.cells.length <;> simp [Tf,Xn,hc,canon,fe]
variable {Γ:Env} {f g e:Nat} {l:Bool} {G:Option (D×Row)→List D→Option (RK×Option Row)} {lent:Option (D×Row)} {X5:List D} {dst:Option Nat} {fr:List Nat}
theorem EX:(Am.ext Γ f l G).lends g=if g=f then l else Γ.lends g:=Eq.trans rfl rfl
theorem NL:(Am.ext Γ f l G).sem g lent X5=if g=f then G lent X5 else Γ.sem g lent X5:=Eq.trans rfl rfl
theorem NK {d:Nat} : (Am.ext Γ f l G).own d=Γ.own d:=Eq.trans rfl rfl
theorem Fl {d:Nat} : aB.own d=true:=Eq.trans rfl rfl
theorem Jq {d i:Nat} : (Am.keep d Γ).own i=(i != d&&Γ.own i):=Eq.trans rfl rfl
theorem B1 {d i:Nat} : (Am.keep d Γ).lends i=Γ.lends i:=Eq.trans rfl rfl
theorem Jr {d i:Nat} : (Am.keep d Γ).sem i lent X5=Γ.sem i lent X5:=Eq.trans rfl rfl
def C9 (lends:Bool) (Γ:Env) (h:Nat→Option Row) (e:Nat) (dst:Option Nat) (g:Nat) (args:List D):Option dB :=
 if lends then
  match args with
  | .buf x v s o n::rest=>qP Γ h e dst g x v (.buf 0 0 s o n) rest
  | .ptr x v o::rest=>qP Γ h e dst g x v (.ptr 0 0 o) rest
  | _=>none
 else rD Γ h e dst g args
def Td (p:Option (Nat×Nat×Nat)) (Γ:Env) (h:Nat→Option Row) (e:Nat) (dst:Option Nat) (g:Nat) (args:List D):Option dB :=
 match p with
 | some p=>qO h e dst p args
 | none =>
  match Γ.grw g with
  | some p=>qN h p args
  | none=>C9 (Γ.lends g) Γ h e dst g args
def UY (p:Option Grow) (Γ:Env) (h:Nat→Option Row) (e:Nat) (dst:Option Nat) (g:Nat) (args:List D):Option dB :=
 match p with
 | some p=>qN h p args
 | none=>C9 (Γ.lends g) Γ h e dst g args
theorem Ed {args:List D} : Td none Γ h e dst g args=UY (Γ.grw g) Γ h e dst g args:=Eq.trans rfl rfl
theorem Eb {args:List D} : UY none Γ h e dst g args=C9 (Γ.lends g) Γ h e dst g args:=Eq.trans rfl rfl
theorem Ec {p:Grow} {args:List D} : UY (some p) Γ h e dst g args=qN h p args:=Eq.trans rfl rfl
theorem NI {f:Nat} {l:Bool} {G:Option (D×Row)→List D→Option (RK×Option Row)} : (Am.ext Γ f l G).grw g=Γ.grw g:=Eq.trans rfl rfl
theorem Jo {d:Nat} : (Am.keep d Γ).grw g=Γ.grw g:=Eq.trans rfl rfl
theorem Je {d y:Nat} : (Am.sw d y Γ).grw g=Γ.grw g:=Eq.trans rfl rfl
theorem Ji {f:Nat} {p:Nat×Nat×Nat} : (Am.zH f p Γ).grw g=Γ.grw g:=Eq.trans rfl rfl
theorem Fj:aB.grw g=none:=Eq.trans rfl rfl
theorem I8 {f:Nat} {p:Grow} : (Am.vf f p Γ).grw g=if g=f then some p else Γ.grw g:=Eq.trans rfl rfl
theorem I9 {f:Nat} {p:Grow} : (Am.vf f p Γ).ins g=Γ.ins g:=Eq.trans rfl rfl
theorem BT {f:Nat} {p:Grow} : (Am.vf f p Γ).lends g=Γ.lends g:=Eq.trans rfl rfl
theorem Jb {f:Nat} {p:Grow} {l:Option (D×Row)} {X5:List D} : (Am.vf f p Γ).sem g l X5=Γ.sem g l X5:=Eq.trans rfl rfl
theorem Ja {f:Nat} {p:Grow} {d:Nat} : (Am.vf f p Γ).own d=Γ.own d:=Eq.trans rfl rfl
theorem E8 {f:Nat} {p:Grow} {d:Nat} : (Am.vf f p Γ).hint d=Γ.hint d:=Eq.trans rfl rfl
def Xe (v:Nat):Option Row→Option (Row×Nat×Nat×Nat)
 | some r=>if r.v=v∧r.mp=true then (match r.cells with | [.ph y s n]=>some (r,y,s,n) | _=>none) else none
 | none=>none
theorem JC {x v:Nat} : ka h x v=Xe v (h x):=by
 unfold ka Xe
 cases h x <;> rfl
theorem JF {v ty y s n:Nat} {fz lst:Bool} : Xe v (some ⟨v,ty,[.ph y s n],fz,lst,true⟩)=some (⟨v,ty,[.ph y s n],fz,lst,true⟩,y,s,n):=by simp [Xe]
def Qy (p:Grow) (y k:Nat) (rest:List D):Option (Row×Nat×Nat×Nat)→Option Row→Option dB
 | some (ry,k',s,n),some r =>
   if k'=k∧k=PK+y∧ry.fz=false∧r.mp=false∧r.fz=false∧r.lst=true∧s=p.k∧r.ty=p.ty∧r.cells.length=n*p.k∧(n+1)*p.bytes≤140737488355328 then
    match p.sem r.cells rest with
    | some cs=>some ⟨.int .i64 (n:Int),[(k,some ⟨r.v,p.ty,r.cells++cs,false,true,false⟩),(y,some ⟨ry.v,ry.ty,[.ph k p.k (n+1)],false,false,true⟩)]⟩
    | none=>none
   else none
 | _,_=>none
theorem Nn {p:Grow} {y v k:Nat} {rest:List D} : qN h p (.pm y v k::rest)=Qy p y k rest (ka h y v) (h k):=Eq.trans rfl rfl
def T9 (k y v ty e' ty' k' n:Nat) (cells:List D):Option (List D)→Option dB
 | some cs=>some ⟨.int .i64 (n:Int),[(k,some ⟨e',ty',cells++cs,false,true,false⟩),(y,some ⟨v,ty,[.ph k k' (n+1)],false,false,true⟩)]⟩
 | none=>none
theorem AD {ty' k' by_:Nat} {sem:List D→List D→Option (List D)} {y k:Nat} {rest:List D} {v ty s n e' tyr:Nat} {cells:List D} : Qy ⟨ty',k',by_,sem⟩ y k rest (some (⟨v,ty,[.ph k s n],false,false,true⟩,k,s,n)) (some ⟨e',tyr,cells,false,true,false⟩) =
  if k=1000000+y∧s=k'∧tyr=ty'∧cells.length=n*k'∧(n+1)*by_≤140737488355328 then T9 k y v ty e' ty' k' n cells (sem cells rest) else none:=by
 simp only [Qy,PK,true_and]
 cases sem cells rest <;> rfl
theorem AE {k y v ty e' ty' k' n:Nat} {cells cs:List D} : T9 k y v ty e' ty' k' n cells (some cs)=some ⟨.int .i64 (n:Int),[(k,some ⟨e',ty',cells++cs,false,true,false⟩),(y,some ⟨v,ty,[.ph k k' (n+1)],false,false,true⟩)]⟩:=Eq.trans rfl rfl
theorem Ee {p:Nat×Nat×Nat} {args:List D} : Td (some p) Γ h e dst g args=qO h e dst p args:=Eq.trans rfl rfl
theorem NJ {f:Nat} {l:Bool} {G:Option (D×Row)→List D→Option (RK×Option Row)} : (Am.ext Γ f l G).ins g=Γ.ins g:=Eq.trans rfl rfl
theorem Jp {d:Nat} : (Am.keep d Γ).ins g=Γ.ins g:=Eq.trans rfl rfl
theorem Jf {d y:Nat} : (Am.sw d y Γ).ins g=Γ.ins g:=Eq.trans rfl rfl
theorem Fk:aB.ins g=none:=Eq.trans rfl rfl
theorem Jj {f:Nat} {p:Nat×Nat×Nat} : (Am.zH f p Γ).ins g=if g=f then some p else Γ.ins g:=Eq.trans rfl rfl
theorem BY {f:Nat} {p:Nat×Nat×Nat} : (Am.zH f p Γ).lends g=Γ.lends g:=Eq.trans rfl rfl
theorem Jl {f:Nat} {p:Nat×Nat×Nat} {l:Option (D×Row)} {X5:List D} : (Am.zH f p Γ).sem g l X5=Γ.sem g l X5:=Eq.trans rfl rfl
theorem Jk {f:Nat} {p:Nat×Nat×Nat} {d:Nat} : (Am.zH f p Γ).own d=Γ.own d:=Eq.trans rfl rfl
theorem Fb {f:Nat} {p:Nat×Nat×Nat} {d:Nat} : (Am.zH f p Γ).hint d=Γ.hint d:=Eq.trans rfl rfl
def Qz (ty k by_ x y s s' o o' n m:Nat) (i:Int) (e:Nat) (d:Nat):Option Row→Option Row→Option dB
 | some r,some r' =>
   if r.fz=false∧r'.fz=false∧r.lst=true∧r'.lst=true∧x≠y∧s=k∧s'=k∧r.ty=ty∧r'.ty=ty∧o=0∧o'=0∧r.cells.length=n*k∧r'.cells.length=m*k∧0≤i∧i≤n∧0<m∧(n+m)*by_≤140737488355328 then
    some ⟨.buf d e k 0 (n+m),[(y,none),(x,none),(d,some ⟨e,ty,r.cells.take (i.toNat*k)++(r'.cells++r.cells.drop (i.toNat*k)),false,true,false⟩)]⟩
   else none
 | _,_=>none
theorem No {ty k by_ x v s o n y v' s' o' m d:Nat} {i:Int} : qO h e (some d) (ty,k,by_) [.buf x v s o n,.int .i64 i,.buf y v' s' o' m]=Qz ty k by_ x y s s' o o' n m i e d (live h x v) (live h y v'):=by
 simp only [qO,Qz]
 cases live h x v with
 | none=>rfl
 | some r=>cases live h y v' <;> rfl
theorem AF {ty k by_ x y s s' o o' n m : Nat} {i : Int} {d : Nat} {r r' : Row} : Qz ty k by_ x y s s' o o' n m i e d (some r) (some r') = if r.fz = false ∧ r'.fz = false ∧ r.lst = true ∧ r'.lst = true ∧ x ≠ y ∧ s = k ∧ s' = k ∧ r.ty = ty ∧ r'.ty = ty ∧ o = 0 ∧ o' = 0 ∧ r.cells.length = n * k ∧ r'.cells.length = m * k ∧ 0 ≤ i ∧ i ≤ n ∧ 0 < m ∧ (n + m) * by_ ≤ 140737488355328 then
        some ⟨.buf d e k 0 (n + m), [(y, none), (x, none), (d, some ⟨e, ty, r.cells.take (i.toNat * k) ++ (r'.cells ++ r.cells.drop (i.toNat * k)), false, true, false⟩)]⟩
      else none := Eq.trans rfl rfl
theorem Np {args:List D} : gB Γ h e dst (.fn g) args=Td (Γ.ins g) Γ h e dst g args:=by
 simp only [gB,Td,C9]
 cases Γ.ins g with
 | none=>cases Γ.grw g <;> rfl
 | some p=>rfl
def OX (h:Nat→Option Row) (e:Nat) (dst:Option Nat) (fr:List Nat):Option (RK×Option Row)→Option dB
 | some (.clean r,_)=>some ⟨r,if fI r then [] else iL h fr⟩
 | some (.fresh ty s n cells,_) =>
  match dst with
  | some d=>if fr.contains d=false then some ⟨.buf d e s 0 n,(if nx cells then [] else iL h fr)++[(d,some ⟨e,ty,cells,false,true,false⟩)]⟩ else none
  | none=>none
 | _=>none
def UX (Γ:Env) (h:Nat→Option Row) (e:Nat) (dst:Option Nat) (g:Nat):Option (List D×List Nat)→Option dB
 | some (X5,fr)=>OX h e dst fr (Γ.sem g none X5)
 | none=>none
theorem Ef {args:List D} : C9 false Γ h e dst g args=UX Γ h e dst g (cf h args):=by
 simp only [C9,Bool.false_eq_true,if_false,rD,UX]
 cases cf h args with
 | none=>rfl
 | some p =>
  obtain ⟨X5,fr⟩:=p
  simp only
  cases hs:Γ.sem g none X5 with
  | none=>rfl
  | some q =>
   obtain ⟨rk,o⟩:=q
   cases rk <;> rfl
theorem Ea:UX Γ h e dst g (some (X5,fr))=OX h e dst fr (Γ.sem g none X5):=Eq.trans rfl rfl
def Rc (h:Nat→Option Row) (fr:List Nat):Bool→List (Nat×Option Row)
 | true=>[]
 | false=>iL h fr
theorem E4:Rc h fr true=[]:=Eq.trans rfl rfl
theorem Bu:Rc h fr false=iL h fr:=Eq.trans rfl rfl
theorem IV {b:Bool} : Rc h [] b=[]:=by cases b <;> rfl
theorem AJ {r:D} {o:Option Row} : OX h e dst fr (some (.clean r,o))=some ⟨r,Rc h fr (fI r)⟩:=by
 simp only [OX]
 cases fI r <;> rfl
theorem NM:iL h []=[]:=Eq.trans rfl rfl
theorem IW {x:Nat} : iL h (x::fr)=(x,(h x).map oY)::iL h fr:=Eq.trans rfl rfl
theorem Rg {v ty:Nat} {cells:List D} {lst mp:Bool} : oY ⟨v,ty,cells,true,lst,mp⟩=⟨v,ty,cells,true,lst,mp⟩:=Eq.trans rfl rfl
theorem Re {v ty:Nat} {cells:List D} {lst mp:Bool} : oY ⟨v,ty,cells,false,lst,mp⟩=⟨v,ty,cells,true,true,mp⟩:=Eq.trans rfl rfl
theorem Em:cf h []=some ([],[]):=Eq.trans rfl rfl
def Xm (p:Option (D×List Nat)) (q:Option (List D×List Nat)):Option (List D×List Nat) :=
 match p,q with
 | some (d',fr),some (ds',fr')=>some (d'::ds',fr++fr')
 | _,_=>none
theorem HR {d:D} {fr fr':List Nat} {ds:List D} : Xm (some (d,fr)) (some (ds,fr'))=some (d::ds,fr++fr'):=Eq.trans rfl rfl
theorem AQ {d:D} {ds:List D} : cf h (d::ds)=Xm (bT h d) (cf h ds):=by
 simp only [cf]
 cases bT h d with
 | none=>rfl
 | some p=>cases cf h ds <;> rfl
variable {T:Nat→Option Ty} {s:St} {rs:List ResultVar} {r:ResultVar}
theorem Ks:vt T s []=some ([],[]):=Eq.trans rfl rfl
theorem FN:vt T s (r::rs)=Xm (Kq T s r) (vt T s rs):=by
 simp only [vt]
 cases Kq T s r with
 | none=>rfl
 | some p=>cases vt T s rs <;> rfl
theorem Kr {t:Nat→D} {i:Nat} : Kq T ⟨t,h,e⟩ (.tmp i)=bT h (t i):=Eq.trans rfl rfl
def Vi (T:Nat→Option Ty) (h:Nat→Option Row) (d:D) (τ:Option Ty):Option (D×List Nat) :=
 match τ,d with
 | some τ,.ptr x v o=>match dm τ h (.ptr x v o) with | some E=>some (fe E.val,[]) | none=>none
 | _,_=>none
theorem FL {t:Nat→D} {i ty:Nat} : Kq T ⟨t,h,e⟩ (.cell i ty)=Vi T h (t i) (T ty):=Eq.trans rfl rfl
def Vj:Option dB→Option (D×List Nat)
 | some E=>some (fe E.val,[])
 | none=>none
theorem FM {d:D} {w:List (Nat×Option Row)} : Vj (some ⟨d,w⟩)=some (fe d,[]):=Eq.trans rfl rfl
theorem Kp {τ:Ty} {x v o:Nat} : Vi T h (.ptr x v o) (some τ)=Vj (dm τ h (.ptr x v o)):=by
 simp only [Vi,Vj]
def U0 (p:Option (List D×List Nat)):Option (RK×Option Row) :=
 match p with
 | some (ds,_)=>some (.clean (oQ ds),none)
 | none=>none
theorem EO {ds:List D} {fr:List Nat} : U0 (some (ds,fr))=some (.clean (oQ ds),none):=Eq.trans rfl rfl
theorem Bi:gG .clean T none rs s=U0 (vt T s rs):=by
 simp only [gG,rR,kA,TE,U0]
 cases vt T s rs <;> rfl
theorem AK {ty sz n d:Nat} {cells:List D} {o:Option Row} : OX h e (some d) fr (some (.fresh ty sz n cells,o))=if fr.contains d=false then some ⟨.buf d e sz 0 n,Rc h fr (nx cells)++[(d,some ⟨e,ty,cells,false,true,false⟩)]⟩ else none:=by
 simp only [OX]
 cases nx cells <;> rfl
theorem xu {k:IntKind} : ∀ l:List Int,nx (ab (eI k) l)=true
 | []=>rfl
 | x::l=>by
  have:=xu (k:=k) l
  simp only [aS,vU,List.cons_append,List.nil_append,nx,fI,this,Bool.and_self]
theorem Bj {ty sz i:Nat} {t:Nat→D} : gG (.fresh ty sz) T none [.tmp i] ⟨t,h,e⟩=lk ty sz h (t i):=Eq.trans rfl rfl
theorem Bk {i:Nat} {t:Nat→D} : gG .tight T none [.tmp i] ⟨t,h,e⟩=tw (t i):=Eq.trans rfl rfl
theorem Q7 {nl tg:Bool} {n:Nat} {xs:List D} : tw (.sl nl tg n xs)=some (.clean (.sl nl tg n xs),none):=Eq.trans rfl rfl
theorem NG {ty sz x v o n:Nat} : lk ty sz h (.buf x v sz o n)=tv ty sz o n (live h x v):=by simp [lk]
theorem Q5 {ty sz:Nat} {nl tg:Bool} {xs:List D} : lk ty sz h (.sl nl tg 0 xs)=if tg=true then some (.fresh ty sz 0 [],none) else none:=Eq.trans rfl rfl
theorem IK {ty sz o n:Nat} {r:Row} : tv ty sz o n (some r)=if r.fz=false∧r.ty=ty∧o+n*sz≤r.cells.length then some (.fresh ty sz n ((r.cells.drop o).take (n*sz)),none) else none:=Eq.trans rfl rfl
theorem CA {d:D} : oQ [d]=d:=Eq.trans rfl rfl
theorem CB {d d':D} {ds:List D} : oQ (d::d'::ds) = .tup (d::d'::ds):=Eq.trans rfl rfl
end
end Go.Proofs.YtpkahnkoecbndaaGreatDoor.Am
namespace Go.Proofs.YtpkahnkoecbndaaGreatDoor.Am
open Go.RowKit Go.Proofs.YtpkahnkoecbndaaGreatDoor.P
set_option linter.unusedSimpArgs false
set_option linter.unusedVariables false
theorem NF (k:IntKind):(eI k).size=1:=Eq.trans rfl rfl
theorem A9:yG.size=1:=Eq.trans rfl rfl
theorem EM:lM.size=1:=Eq.trans rfl rfl
theorem IJ {α:Type} (e:jH α):(oS e).size=1:=Eq.trans rfl rfl
section
variable {α:Type} (E:jH α) {l m:List α} {x x' z:α} {i a b n c:Int} {B:Nat}
theorem aJ (h:P.idx l i=some x):0≤i∧i<l.length:=by
 unfold P.idx at h
 split at h
 ·assumption
 ·cases h
theorem LJ (h:P.idx l i=some x):l[i.toNat]? = some x:=by
 unfold P.idx at h
 split at h
 ·exact h
 ·cases h
theorem aC (h:P.idx l i=some x):(ab E l).drop (i.toNat*E.size)=E.cells x++ab E (l.drop (i.toNat+1)):=by
 have h':=LJ h
 obtain ⟨hi,rfl⟩:=List.getElem?_eq_some_iff.1 h'
 rw [tu,List.drop_eq_getElem_cons hi]
 rfl
theorem aA (h:P.idx l i=some x):i.toNat*E.size+E.size≤l.length*E.size:=by
 have h':=aJ h
 have:i.toNat+1≤l.length:=by omega
 have:=Nat.mul_le_mul_right E.size this
 rwa [Nat.succ_mul] at this
theorem RY : ∀ (l:List α) (i:Nat) (x:α),l[i]? = some x→∀ x',ab E (l.set i x')=(ab E l).take (i*E.size)++E.cells x'++(ab E l).drop (i*E.size+E.size)
 | [],i,x,h,x'=>by simp at h
 | y::l,0,x,h,x'=>by
  rw [List.set_cons_zero,aS,aS,Nat.zero_mul,List.take_zero,List.nil_append,Nat.zero_add,List.drop_append,E.len,Nat.sub_self,List.drop_zero,List.drop_eq_nil_of_le (by rw [E.len]; exact Nat.le_refl _),List.nil_append]
 | y::l,i+1,x,h,x'=>by
  have ih:=RY l i x (by simpa using h) x'
  rw [List.set_cons_succ,aS,aS,ih,Nat.succ_mul]
  have hy:=E.len y
  have e1:(E.cells y++ab E l).take (i*E.size+E.size)=E.cells y++(ab E l).take (i*E.size):=by rw [List.take_append,hy,List.take_of_length_le (by omega),Nat.add_sub_cancel]
  have e2:(E.cells y++ab E l).drop (i*E.size+E.size+E.size)=(ab E l).drop (i*E.size+E.size):=by
   rw [List.drop_append,hy,List.drop_eq_nil_of_le (by omega),List.nil_append,Nat.add_sub_cancel]
  rw [e1,e2]
  simp only [List.append_assoc]
theorem og (fo:Nat) (cs:List D) (h:P.idx l i=some x) (hc:E.cells x'=putCells (E.cells x) fo cs) (hfo:fo+cs.length≤E.size):putCells (ab E l) (i.toNat*E.size+fo) cs=ab E (l.set i.toNat x'):=by
 have h':=LJ h
 rw [RY E l i.toNat x h' x',hc]
 have he:=aC E h
 have hf:=aA E h
 have hl:=cW E l
 have hx:=E.len x
 have hsplit:ab E l=(ab E l).take (i.toNat*E.size)++(E.cells x++(ab E l).drop (i.toNat*E.size+E.size)):=by
  have h1:=List.take_append_drop (i.toNat*E.size) (ab E l)
  have h2:(ab E l).drop (i.toNat*E.size+E.size)=ab E (l.drop (i.toNat+1)):=by
   rw [← List.drop_drop,he,List.drop_append,hx,Nat.sub_self,List.drop_zero,List.drop_eq_nil_of_le (by omega),List.nil_append]
  rw [h2,← he,h1]
 generalize (ab E l).drop (i.toNat*E.size+E.size)=r at *
 generalize ht:(ab E l).take (i.toNat*E.size)=p at *
 have hp:p.length=i.toNat*E.size:=by rw [← ht]; simp; omega
 unfold putCells
 rw [hsplit]
 have e1:(p++(E.cells x++r)).take (i.toNat*E.size+fo)=p++(E.cells x).take fo:=by
  rw [List.take_append,hp,List.take_of_length_le (by omega),Nat.add_sub_cancel_left,List.take_append_of_le_length (by omega)]
 have e2:(p++(E.cells x++r)).drop (i.toNat*E.size+fo+cs.length)=(E.cells x).drop (fo+cs.length)++r:=by
  rw [Nat.add_assoc,List.drop_append,hp,List.drop_eq_nil_of_le (by omega),Nat.add_sub_cancel_left,List.nil_append,List.drop_append_of_le_length (by omega)]
 rw [e1,e2]
 simp only [List.append_assoc]
theorem RQ (h:P.idx l i=some x):putCells (ab E l) (i.toNat*E.size) (E.cells x')=ab E (l.set i.toNat x'):=by
 have:=og E (x':=x') 0 (E.cells x') h (by unfold putCells; simp [E.len]) (by rw [E.len]; omega)
 simpa using this
theorem J3 (h:L5 B n c z=some m):m=List.replicate n.toNat z∧0≤n∧n≤c∧c≤maxLen∧c.toNat*B≤140737488355328:=by
 unfold L5 at h
 split at h
 ·cases h; exact ⟨rfl,by assumption⟩
 ·cases h
theorem mk_one (h:L5 B n n z=some m):0≤n∧n.toNat=m.length∧m.length≤maxLen∧nH m.length (E.cells z)=ab E m∧m.length*B≤140737488355328:=by
 obtain ⟨rfl,h1,_,h3,h4⟩:=J3 h
 refine ⟨h1,by simp,by simp; omega,by rw [Bh]; simp,by simpa using h4⟩
theorem Vb (h:L5 B n c z=some m):0≤n∧0≤c∧n.toNat=m.length∧nH m.length (E.cells z)=ab E m∧m.length≤c.toNat∧c.toNat≤maxLen∧c.toNat*B≤140737488355328:=by
 obtain ⟨rfl,h1,h2,h3,h4⟩:=J3 h
 refine ⟨h1,by omega,by simp,by rw [Bh]; simp,by simp; omega,by omega,h4⟩
theorem yf (h:CN l a b=some m):0≤a∧0≤b∧a.toNat≤b.toNat∧b.toNat≤l.length∧b.toNat - a.toNat=m.length∧(List.take (m.length*E.size) (List.drop (a.toNat*E.size) (ab E l))=ab E m):=by
 unfold CN at h
 split at h
 ·rename_i hc
  cases h
  have hl:((l.drop a.toNat).take (b.toNat - a.toNat)).length=b.toNat - a.toNat:=by simp; omega
  refine ⟨hc.1,by omega,by omega,by omega,hl.symm,?_⟩
  rw [hl,tu,fM]
 ·cases h
theorem Vm (h:CN l a b=some m):0≤a∧0≤b∧(a.toNat≤b.toNat∧b.toNat≤l.length)∧b.toNat - a.toNat=m.length∧(List.take (m.length*E.size) (List.drop (a.toNat*E.size) (ab E l))=ab E m):=by
 obtain ⟨h1,h2,h3,h4,h5,h6⟩:=yf E h
 exact ⟨h1,h2,⟨h3,h4⟩,h5,h6⟩
theorem Vn (h:CN l a (l.length:Int)=some m):0≤a∧0≤a∧a.toNat≤l.length∧l.length - a.toNat=m.length∧(List.take (m.length*E.size) (List.drop (a.toNat*E.size) (ab E l))=ab E m):=by
 obtain ⟨h1,h2,h3,h4,h5,h6⟩:=yf E h
 simp only [Int.toNat_natCast] at h3 h5
 exact ⟨h1,h1,h3,h5,h6⟩
theorem CO (h:CN l 0 b=some m):0≤b∧0≤b∧m.length≤l.length∧b.toNat=m.length∧(List.take (m.length*E.size) (ab E l)=ab E m):=by
 obtain ⟨h1,h2,h3,h4,h5,h6⟩:=yf E h
 have h5':b.toNat=m.length:=by simpa using h5
 refine ⟨h2,h2,by omega,h5',by simpa using h6⟩
theorem xk {n:List α} (h:iO B l m=some n):n=l++m∧n.length≤maxLen∧n.length*B≤140737488355328:=by
 unfold iO at h
 split at h
 ·rename_i hc
  cases h
  exact ⟨rfl,by rw [List.length_append]; exact hc.1,by rw [List.length_append]; exact hc.2⟩
 ·cases h
theorem fS {n:List α} (h:iO B l [x]=some n):l.length+1=n.length∧ab E l++E.cells x=ab E n∧n.length≤maxLen∧n.length*B≤140737488355328:=by
 obtain ⟨rfl,h1,h2⟩:=xk h
 exact ⟨by simp,by rw [fY]; simp [ab],h1,h2⟩
theorem pI {n:List α} (h:iO B [] l=some n):n=l∧l.length≤maxLen∧l.length*B≤140737488355328:=by
 obtain ⟨rfl,h1,h2⟩:=xk h
 exact ⟨rfl,h1,h2⟩
theorem M8 {n:List α} (h:iO B l m=some n):l.length+m.length=n.length∧ab E l++ab E m=ab E n∧n.length≤maxLen∧n.length*B≤140737488355328:=by
 obtain ⟨rfl,h1,h2⟩:=xk h
 exact ⟨by simp,by rw [fY],h1,h2⟩
end
theorem pU {k:IntKind} {x y z:Int} (h:xn k x y=some z) : ¬ y=0∧k.wrap (x.tdiv y)=z:=by
 unfold xn at h
 split at h
 ·cases h
 ·cases h; exact ⟨by assumption,rfl⟩
theorem qm {k:IntKind} {x y z:Int} (h:vn k x y=some z) : ¬ y=0∧x.tmod y=z:=by
 unfold vn at h
 split at h
 ·cases h
 ·cases h; exact ⟨by assumption,rfl⟩
theorem Ae {k:IntKind} {x y z:Int} (h:DT k x y=some z) : ¬ y<0∧k.wrap (x*2 ^ (min y.toNat k.bits))=z:=by
 unfold DT at h
 split at h
 ·cases h
 ·cases h; exact ⟨by assumption,rfl⟩
theorem qH {k:IntKind} {x y z:Int} (h:yd k x y=some z) : ¬ y<0∧x.fdiv (2 ^ (min y.toNat k.bits))=z:=by
 unfold yd at h
 split at h
 ·cases h
 ·cases h; exact ⟨by assumption,rfl⟩
theorem Nk (op:BinOp) (k:IntKind) (x y:Int):Az op k x y=ng op k x y:=Eq.trans rfl rfl
theorem Oi {s:ByteArray} {i x:Int} (h:P.TL s i=some x):0≤i∧0≤i∧s[i.toNat]? = some (UInt8.ofNat x.toNat)∧((UInt8.ofNat x.toNat).toNat:Int)=x:=by
 unfold P.TL at h
 split at h
 ·rename_i hi
  rw [Option.map_eq_some_iff] at h
  obtain ⟨b,h1,h2⟩:=h
  subst h2
  have:UInt8.ofNat (b.toNat:Int).toNat=b:=by simp
  exact ⟨hi,hi,by rw [h1,this],by rw [this]⟩
 ·cases h
theorem oA.emp {P:Program} {f:FuncId} {rk:RK} {out:Option Row} (h1:oA P f none [.sl true true 0 []] rk out) (h2:oA P f none [.sl true false 0 []] rk out):oA P f none [.sl false false 0 []] rk out:=by
 intro w M vs hM ha
 have hd:=ha.2 0 _ rfl
 generalize hu:vs.getD 0 undef=u at hd
 cases hd with
 | sl A c nl tight n xs us k1 k2 k3 k4 k5 k6 k7 k8 =>
  cases A with
  | none =>
   refine h1 w M vs hM ⟨ha.1,fun j d hj => ?_,ha.tab⟩
   cases j with
   | zero=>cases hj; rw [hu]; exact .sl none c true true 0 [] us k1 k2 (fun _=>⟨fun _=>⟨rfl,(k4 rfl).2⟩,fun h=>by cases h⟩) k4 (fun _=>(k4 rfl).2) k6 k7 k8
   | succ j=>simp at hj
  | some A =>
   refine h2 w M vs hM ⟨ha.1,fun j d hj => ?_,ha.tab⟩
   cases j with
   | zero=>cases hj; rw [hu]; exact .sl (some A) c true false 0 [] us k1 k2 (fun _=>⟨(fun h=>by cases h),fun _ h=>by cases h⟩) k4 (fun h=>by cases h) k6 k7 k8
   | succ j=>simp at hj
theorem bW.Ut {P:Program} {T:Nat→Option Ty} {Γ:Env} (hT:kT P T) (hΓ:b7 P Γ) (hm:P.follows .mixedOrders=true) {α β:Type} {E:jH α} {F:List α→Option β} {R:β→RK} {mode:Mode} {f:FuncId} {fn:Func} (hf:P.funcs[f]? = some fn) (hok:(match fn.body with | some c=>codeOk c | none=>true)=true)
  (hc:(fn.name == "runtime.NumGoroutine")=false∧fn.body.isNone=false) (hn:1≤fn.ntmps)
  (h0 : ∀ r,F []=some r→aX mode T Γ FU fn none [.sl true true 0 []]=some (R r,none))
  (h1 : ∀ r,F []=some r→aX mode T Γ FU fn none [.sl true false 0 []]=some (R r,none))
  (h2 : ∀ l r,0<l.length→F l=some r→aX mode T Γ FU fn none [.sl false false l.length (ab E l)]=some (R r,none)):bW P f (eZ (ef (ie E)) F R) where
 calls lent X5 rk out hg:=by
  obtain ⟨rfl,rfl,l,r,rfl,hr,rfl⟩:=pe hg
  cases l with
  | nil=>exact oA.emp (ki hT hΓ hm hf hok hn rfl (h0 r hr)) (ki hT hΓ hm hf hok hn rfl (h1 r hr))
  | cons x l=>exact ki hT hΓ hm hf hok hn rfl (h2 (x::l) r (by simp) hr)
 callable:=⟨fn,hf,hc⟩
end Go.Proofs.YtpkahnkoecbndaaGreatDoor.Am
namespace Go.Proofs.YtpkahnkoecbndaaGreatDoor.Am
open Go.RowKit Go.Proofs.YtpkahnkoecbndaaGreatDoor.P
set_option linter.unusedSimpArgs false
set_option linter.unusedVariables false
theorem XN:type_of% (And.intro @Gh <| And.intro @AB <| And.intro @FV <| And.intro @Kz <| And.intro @Ky <| And.intro @FR <| And.intro @CH <| And.intro @FT <| And.intro @bo <| And.intro @bf <| And.intro @rf <| And.intro @bG <| And.intro @uJ <| And.intro @zh <| And.intro @CL <| And.intro @FQ <| And.intro @F5 <| And.intro @CX <| And.intro @Kw <| And.intro @FO <| And.intro @CE <| And.intro @F6 <| And.intro @CY <| And.intro @CZ <| And.intro @zr <| And.intro @Kx <| And.intro @FP <| And.intro @CF <| And.intro @F7 <| And.intro @C0 <| And.intro @C1 <| And.intro @zt <| And.intro @KK <| And.intro @KL <| And.intro @Oj <| And.intro @Ol <| And.intro @Co <| And.intro @y5 <| And.intro @Cp <| And.intro @y6 <| And.intro @Iy <| And.intro @IE <| And.intro @Ix <| And.intro @ID <| And.intro @AV <| And.intro @AY <| And.intro @Es <| And.intro @EB <| And.intro @Iz <| And.intro @IF <| And.intro @Iv <| @IB):=And.intro @Gh <| And.intro @AB <| And.intro @FV <| And.intro @Kz <| And.intro @Ky <| And.intro @FR <| And.intro @CH <| And.intro @FT <| And.intro @bo <| And.intro @bf <| And.intro @rf <| And.intro @bG <| And.intro @uJ <| And.intro @zh <| And.intro @CL <| And.intro @FQ <| And.intro @F5 <| And.intro @CX <| And.intro @Kw <| And.intro @FO <| And.intro @CE <| And.intro @F6 <| And.intro @CY <| And.intro @CZ <| And.intro @zr <| And.intro @Kx <| And.intro @FP <| And.intro @CF <| And.intro @F7 <| And.intro @C0 <| And.intro @C1 <| And.intro @zt <| And.intro @KK <| And.intro @KL <| And.intro @Oj <| And.intro @Ol <| And.intro @Co <| And.intro @y5 <| And.intro @Cp <| And.intro @y6 <| And.intro @Iy <| And.intro @IE <| And.intro @Ix <| And.intro @ID <| And.intro @AV <| And.intro @AY <| And.intro @Es <| And.intro @EB <| And.intro @Iz <| And.intro @IF <| And.intro @Iv <| @IB
theorem XO:type_of% (And.intro @Ez <| And.intro @EH <| And.intro @vR <| And.intro @vT <| And.intro @ua <| And.intro @ue <| And.intro @Eu <| And.intro @ED <| And.intro @ub <| And.intro @uf <| And.intro @Ev <| And.intro @EE <| And.intro @Ew <| And.intro @EF <| And.intro @Et <| And.intro @EC <| And.intro @rI <| And.intro @rJ <| And.intro @uc <| And.intro @ug <| And.intro @Er <| And.intro @EA <| And.intro @NC <| And.intro @ND <| And.intro @yx <| And.intro @yB <| And.intro @yy <| And.intro @yC <| And.intro @Iu <| And.intro @IA <| And.intro @yw <| And.intro @yA <| And.intro @J8 <| And.intro @Kj <| And.intro @D8 <| And.intro @ym <| And.intro @Ep <| And.intro @IS <| And.intro @A5 <| And.intro @A4 <| And.intro @BV <| And.intro @BU <| And.intro @cY <| And.intro @yN <| And.intro @cX <| And.intro @qn <| And.intro @OP <| And.intro @HM <| And.intro @D1 <| And.intro @D0 <| And.intro @Fm <| @EZ):=And.intro @Ez <| And.intro @EH <| And.intro @vR <| And.intro @vT <| And.intro @ua <| And.intro @ue <| And.intro @Eu <| And.intro @ED <| And.intro @ub <| And.intro @uf <| And.intro @Ev <| And.intro @EE <| And.intro @Ew <| And.intro @EF <| And.intro @Et <| And.intro @EC <| And.intro @rI <| And.intro @rJ <| And.intro @uc <| And.intro @ug <| And.intro @Er <| And.intro @EA <| And.intro @NC <| And.intro @ND <| And.intro @yx <| And.intro @yB <| And.intro @yy <| And.intro @yC <| And.intro @Iu <| And.intro @IA <| And.intro @yw <| And.intro @yA <| And.intro @J8 <| And.intro @Kj <| And.intro @D8 <| And.intro @ym <| And.intro @Ep <| And.intro @IS <| And.intro @A5 <| And.intro @A4 <| And.intro @BV <| And.intro @BU <| And.intro @cY <| And.intro @yN <| And.intro @cX <| And.intro @qn <| And.intro @OP <| And.intro @HM <| And.intro @D1 <| And.intro @D0 <| And.intro @Fm <| @EZ
theorem XP:type_of% (And.intro @E0 <| And.intro @zl <| And.intro @CV <| And.intro @CU <| And.intro @zq <| And.intro @sW <| And.intro @rj <| And.intro @zn <| And.intro @rl <| And.intro @zo <| And.intro @rm <| And.intro @zk <| And.intro @F2 <| And.intro @uN <| And.intro @uO <| And.intro @zm <| And.intro @pr <| And.intro @zp <| And.intro @CT <| And.intro @uM <| And.intro @w6 <| And.intro @N4 <| And.intro @J7 <| And.intro @FK <| And.intro @FJ <| And.intro @Fe <| And.intro @Nb <| And.intro @HO <| And.intro @Ng <| And.intro @Qt <| And.intro @Nf <| And.intro @Qq <| And.intro @M9 <| And.intro @Nh <| And.intro @Qp <| And.intro @zW <| And.intro @Ni <| And.intro @Na <| And.intro @D2 <| And.intro @Av <| And.intro @Nd <| And.intro @D3 <| And.intro @Eh <| And.intro @AP <| And.intro @Ej <| And.intro @H4 <| And.intro @AM <| And.intro @yu <| And.intro @AO <| And.intro @Eg <| And.intro @AL <| @Ih):=And.intro @E0 <| And.intro @zl <| And.intro @CV <| And.intro @CU <| And.intro @zq <| And.intro @sW <| And.intro @rj <| And.intro @zn <| And.intro @rl <| And.intro @zo <| And.intro @rm <| And.intro @zk <| And.intro @F2 <| And.intro @uN <| And.intro @uO <| And.intro @zm <| And.intro @pr <| And.intro @zp <| And.intro @CT <| And.intro @uM <| And.intro @w6 <| And.intro @N4 <| And.intro @J7 <| And.intro @FK <| And.intro @FJ <| And.intro @Fe <| And.intro @Nb <| And.intro @HO <| And.intro @Ng <| And.intro @Qt <| And.intro @Nf <| And.intro @Qq <| And.intro @M9 <| And.intro @Nh <| And.intro @Qp <| And.intro @zW <| And.intro @Ni <| And.intro @Na <| And.intro @D2 <| And.intro @Av <| And.intro @Nd <| And.intro @D3 <| And.intro @Eh <| And.intro @AP <| And.intro @Ej <| And.intro @H4 <| And.intro @AM <| And.intro @yu <| And.intro @AO <| And.intro @Eg <| And.intro @AL <| @Ih
theorem XQ:type_of% (And.intro @Im <| And.intro @Ib <| And.intro @El <| And.intro @Ig <| And.intro @Ny <| And.intro @H7 <| And.intro @Nw <| And.intro @Nv <| And.intro @H9 <| And.intro @Ie <| And.intro @QQ <| And.intro @NB <| And.intro @QR <| And.intro @Ua <| And.intro @QO <| And.intro @QP <| And.intro @It <| And.intro @EX <| And.intro @NL <| And.intro @Np <| And.intro @Ef <| And.intro @Ea <| And.intro @AJ <| And.intro @E4 <| And.intro @Bu <| And.intro @IV <| And.intro @NM <| And.intro @IW <| And.intro @Em <| And.intro @AQ <| And.intro @HR <| And.intro @Ks <| And.intro @FN <| And.intro @Kr <| And.intro @FL <| And.intro @Kp <| And.intro @FM <| And.intro @Bi <| And.intro @EO <| And.intro @AK <| And.intro @xu <| And.intro @Bj <| And.intro @Bk <| And.intro @Q7 <| And.intro @NG <| And.intro @Q5 <| And.intro @IK <| And.intro @CA <| And.intro @CB <| And.intro @Nk <| And.intro @v8 <| @aS):=And.intro @Im <| And.intro @Ib <| And.intro @El <| And.intro @Ig <| And.intro @Ny <| And.intro @H7 <| And.intro @Nw <| And.intro @Nv <| And.intro @H9 <| And.intro @Ie <| And.intro @QQ <| And.intro @NB <| And.intro @QR <| And.intro @Ua <| And.intro @QO <| And.intro @QP <| And.intro @It <| And.intro @EX <| And.intro @NL <| And.intro @Np <| And.intro @Ef <| And.intro @Ea <| And.intro @AJ <| And.intro @E4 <| And.intro @Bu <| And.intro @IV <| And.intro @NM <| And.intro @IW <| And.intro @Em <| And.intro @AQ <| And.intro @HR <| And.intro @Ks <| And.intro @FN <| And.intro @Kr <| And.intro @FL <| And.intro @Kp <| And.intro @FM <| And.intro @Bi <| And.intro @EO <| And.intro @AK <| And.intro @xu <| And.intro @Bj <| And.intro @Bk <| And.intro @Q7 <| And.intro @NG <| And.intro @Q5 <| And.intro @IK <| And.intro @CA <| And.intro @CB <| And.intro @Nk <| And.intro @v8 <| @aS
theorem XW:type_of% (And.intro (@KS) <| @KU):=And.intro @KS <| @KU
theorem XV:type_of% (And.intro @true_and <| And.intro @and_true <| And.intro @Bool.false_eq_true <| And.intro @List.map_cons.{0,0} <| And.intro @List.map_nil.{0,0} <| And.intro @List.drop_succ_cons.{0} <| And.intro @List.drop_zero.{0} <| And.intro @List.take_succ_cons.{0} <| And.intro @List.take_zero.{0} <| And.intro @List.length_cons.{0} <| And.intro @List.length_nil.{0} <| And.intro @List.contains_nil.{0} <| And.intro @List.nil_append.{0} <| And.intro @List.cons_append.{0} <| And.intro @List.append_nil.{0} <| And.intro @List.getElem?_cons_zero.{0} <| And.intro @List.getElem?_cons_succ.{0} <| And.intro @decide_true <| And.intro @decide_false <| And.intro @beq_self_eq_true.{0} <| And.intro @List.isEmpty_nil.{0} <| And.intro @List.isEmpty_cons.{0} <| And.intro @Option.map_none.{0,0} <| And.intro @Option.map_some.{0,0} <| And.intro @List.all_cons.{0} <| And.intro @List.all_nil.{0} <| And.intro @Option.isSome_some.{0} <| And.intro @Bool.and_true <| And.intro @Bool.true_and <| And.intro @Bool.false_and <| And.intro @Bool.and_self <| And.intro @Bool.not_true <| And.intro @Bool.not_false <| And.intro @and_self <| And.intro @Nat.zero_add <| And.intro @Nat.add_zero <| And.intro @Nat.zero_mul <| And.intro @Nat.sub_zero <| And.intro @Nat.zero_le <| And.intro @Nat.le_refl <| And.intro @Option.some.injEq.{0} <| And.intro @Nat.le_zero_eq <| And.intro @Nat.one_ne_zero <| And.intro @Bool.or_self <| And.intro @Bool.or_true <| And.intro @Bool.true_or <| And.intro @Bool.or_false <| And.intro @Bool.false_or <| @List.length_set.{0}):=And.intro @true_and <| And.intro @and_true <| And.intro @Bool.false_eq_true <| And.intro @List.map_cons.{0,0} <| And.intro @List.map_nil.{0,0} <| And.intro @List.drop_succ_cons.{0} <| And.intro @List.drop_zero.{0} <| And.intro @List.take_succ_cons.{0} <| And.intro @List.take_zero.{0} <| And.intro @List.length_cons.{0} <| And.intro @List.length_nil.{0} <| And.intro @List.contains_nil.{0} <| And.intro @List.nil_append.{0} <| And.intro @List.cons_append.{0} <| And.intro @List.append_nil.{0} <| And.intro @List.getElem?_cons_zero.{0} <| And.intro @List.getElem?_cons_succ.{0} <| And.intro @decide_true <| And.intro @decide_false <| And.intro @beq_self_eq_true.{0} <| And.intro @List.isEmpty_nil.{0} <| And.intro @List.isEmpty_cons.{0} <| And.intro @Option.map_none.{0,0} <| And.intro @Option.map_some.{0,0} <| And.intro @List.all_cons.{0} <| And.intro @List.all_nil.{0} <| And.intro @Option.isSome_some.{0} <| And.intro @Bool.and_true <| And.intro @Bool.true_and <| And.intro @Bool.false_and <| And.intro @Bool.and_self <| And.intro @Bool.not_true <| And.intro @Bool.not_false <| And.intro @and_self <| And.intro @Nat.zero_add <| And.intro @Nat.add_zero <| And.intro @Nat.zero_mul <| And.intro @Nat.sub_zero <| And.intro @Nat.zero_le <| And.intro @Nat.le_refl <| And.intro @Option.some.injEq.{0} <| And.intro @Nat.le_zero_eq <| And.intro @Nat.one_ne_zero <| And.intro @Bool.or_self <| And.intro @Bool.or_true <| And.intro @Bool.true_or <| And.intro @Bool.or_false <| And.intro @Bool.false_or <| @List.length_set.{0}
theorem XR:type_of% (And.intro @CJ <| And.intro @CI <| And.intro @T8 <| And.intro @D4 <| And.intro @Aw <| And.intro @M5 <| And.intro @HI <| And.intro @M6 <| And.intro @Qi <| And.intro @M3 <| And.intro @M4 <| And.intro @Ij <| And.intro @NK <| And.intro @Fl <| And.intro @Jq <| And.intro @B1 <| @Jr):=And.intro @CJ <| And.intro @CI <| And.intro @T8 <| And.intro @D4 <| And.intro @Aw <| And.intro @M5 <| And.intro @HI <| And.intro @M6 <| And.intro @Qi <| And.intro @M3 <| And.intro @M4 <| And.intro @Ij <| And.intro @NK <| And.intro @Fl <| And.intro @Jq <| And.intro @B1 <| @Jr
theorem XZ:type_of% (And.intro @vl.eq_1 <| And.intro @vl.eq_2 <| And.intro @ev.eq_1 <| And.intro @ev.eq_2 <| And.intro @ev.eq_3 <| And.intro @ev.eq_4 <| And.intro @pj.eq_1 <| And.intro @pj.eq_2 <| And.intro @pj.eq_3 <| And.intro @pj.eq_4 <| And.intro @pj.eq_5 <| And.intro @pj.eq_6 <| And.intro @eE.eq_1 <| And.intro @eE.eq_2 <| And.intro @xm.eq_1 <| And.intro @xm.eq_2 <| And.intro @xm.eq_3 <| And.intro @jN.eq_1 <| And.intro @jN.eq_2 <| And.intro @jN.eq_3 <| And.intro @fj.eq_1 <| And.intro @fj.eq_2 <| And.intro @fj.eq_3 <| And.intro @fj.eq_4 <| And.intro @fj.eq_5 <| And.intro @fj.eq_6 <| And.intro @fj.eq_7 <| And.intro @fj.eq_8 <| And.intro @fj.eq_9 <| And.intro @fj.eq_10 <| And.intro @fj.eq_11 <| And.intro @fj.eq_12 <| And.intro @fj.eq_13 <| And.intro @fj.eq_14 <| And.intro @fj.eq_15 <| And.intro @fj.eq_16 <| And.intro @DU.eq_1 <| And.intro @DU.eq_2 <| And.intro @DU.eq_3 <| And.intro @DU.eq_4 <| And.intro @DU.eq_5 <| And.intro @DU.eq_6 <| And.intro @Tx.eq_1 <| And.intro @bt.eq_1 <| And.intro @bt.eq_2 <| And.intro @dw.eq_1 <| And.intro @dw.eq_2 <| And.intro @dw.eq_3 <| And.intro @dm.eq_1 <| And.intro @dm.eq_2 <| And.intro @dm.eq_3 <| And.intro @live.eq_1 <| And.intro @lS.eq_1 <| And.intro @lS.eq_2 <| And.intro @Ds.nN.eq_1 <| And.intro @Ds.nN.eq_2 <| And.intro @Ds.nN.eq_3 <| And.intro @cm.eq_1 <| And.intro @cm.eq_2 <| And.intro @cm.eq_3 <| And.intro @cm.eq_4 <| And.intro @cm.eq_5 <| And.intro @cm.eq_6 <| And.intro @fI.eq_1 <| And.intro @fI.eq_2 <| And.intro @fI.eq_3 <| And.intro @fI.eq_4 <| And.intro @fI.eq_5 <| And.intro @fI.eq_6 <| And.intro @nx.eq_1 <| And.intro @nx.eq_2 <| And.intro @wG.eq_1 <| And.intro @wG.eq_2 <| And.intro @wG.eq_3 <| And.intro @wG.eq_4 <| And.intro @alive.eq_1 <| And.intro @alive.eq_2 <| And.intro @alive.eq_3 <| And.intro @nm.eq_1 <| And.intro @nm.eq_2 <| And.intro @iC.eq_1 <| And.intro @iC.eq_2 <| And.intro @iC.eq_3 <| And.intro @iC.eq_4 <| And.intro @iC.eq_5 <| And.intro @iC.eq_6 <| And.intro @cJ.eq_1 <| And.intro @cJ.eq_2 <| And.intro @oe.eq_1 <| And.intro @iU.eq_1 <| And.intro @iU.eq_2 <| And.intro @iU.eq_3 <| And.intro @kx.eq_1 <| And.intro @kx.eq_2 <| And.intro @Ft.eq_1 <| And.intro @bJ.eq_1 <| And.intro @bJ.eq_2 <| And.intro @bJ.eq_3 <| And.intro @bJ.eq_4 <| And.intro @fF.eq_1 <| And.intro @fF.eq_2 <| And.intro @fF.eq_3 <| And.intro @cz.eq_1 <| And.intro @cz.eq_2 <| And.intro @cz.eq_3 <| And.intro @cz.eq_4 <| And.intro @cz.eq_5 <| And.intro @cz.eq_6 <| And.intro @eB.eq_1 <| And.intro @gP.eq_1 <| And.intro @gP.eq_2 <| And.intro @fieldAt.eq_1 <| And.intro @du.eq_1 <| And.intro @n9.eq_1 <| And.intro @iA.eq_1 <| And.intro @content.eq_1 <| And.intro @content.eq_2 <| And.intro @content.eq_3 <| And.intro @putCells.eq_1 <| And.intro @P3.eq_1 <| And.intro @P3.eq_2 <| And.intro @P3.eq_3 <| And.intro @P3.eq_4 <| And.intro @Lq.eq_1 <| And.intro @Lq.eq_2 <| And.intro @Lq.eq_3 <| And.intro @Lq.eq_4 <| And.intro @Pc.eq_1 <| And.intro @Pc.eq_2 <| And.intro @Pc.eq_3 <| And.intro @eV.eq_1 <| And.intro @eV.eq_2 <| And.intro @eV.eq_3 <| And.intro @kindOk.eq_1 <| And.intro @kindOk.eq_2 <| And.intro @kindOk.eq_3 <| And.intro @kindOk.eq_4 <| And.intro @jC.eq_1 <| And.intro @jC.eq_2 <| And.intro @jC.eq_3 <| And.intro @jC.eq_4 <| And.intro @l6.eq_1 <| And.intro @l6.eq_2 <| And.intro @l6.eq_3 <| And.intro @l6.eq_4 <| And.intro @l6.eq_5 <| And.intro @l6.eq_6 <| And.intro @l6.eq_7 <| And.intro @l6.eq_8 <| And.intro @qG.eq_1 <| And.intro @qG.eq_2 <| And.intro @qG.eq_3 <| And.intro @aZ.eq_1 <| And.intro @aZ.eq_2 <| And.intro @aZ.eq_3 <| And.intro @aZ.eq_4 <| And.intro @aZ.eq_5 <| And.intro @aZ.eq_6 <| And.intro @aZ.eq_7 <| And.intro @pf.eq_1 <| And.intro @pf.eq_2 <| And.intro @rC.eq_1 <| And.intro @rC.eq_2 <| And.intro @rC.eq_3 <| @rC.eq_4):=And.intro @vl.eq_1 <| And.intro @vl.eq_2 <| And.intro @ev.eq_1 <| And.intro @ev.eq_2 <| And.intro @ev.eq_3 <| And.intro @ev.eq_4 <| And.intro @pj.eq_1 <| And.intro @pj.eq_2 <| And.intro @pj.eq_3 <| And.intro @pj.eq_4 <| And.intro @pj.eq_5 <| And.intro @pj.eq_6 <| And.intro @eE.eq_1 <| And.intro @eE.eq_2 <| And.intro @xm.eq_1 <| And.intro @xm.eq_2 <| And.intro @xm.eq_3 <| And.intro @jN.eq_1 <| And.intro @jN.eq_2 <| And.intro @jN.eq_3 <| And.intro @fj.eq_1 <| And.intro @fj.eq_2 <| And.intro @fj.eq_3 <| And.intro @fj.eq_4 <| And.intro @fj.eq_5 <| And.intro @fj.eq_6 <| And.intro @fj.eq_7 <| And.intro @fj.eq_8 <| And.intro @fj.eq_9 <| And.intro @fj.eq_10 <| And.intro @fj.eq_11 <| And.intro @fj.eq_12 <| And.intro @fj.eq_13 <| And.intro @fj.eq_14 <| And.intro @fj.eq_15 <| And.intro @fj.eq_16 <| And.intro @DU.eq_1 <| And.intro @DU.eq_2 <| And.intro @DU.eq_3 <| And.intro @DU.eq_4 <| And.intro @DU.eq_5 <| And.intro @DU.eq_6 <| And.intro @Tx.eq_1 <| And.intro @bt.eq_1 <| And.intro @bt.eq_2 <| And.intro @dw.eq_1 <| And.intro @dw.eq_2 <| And.intro @dw.eq_3 <| And.intro @dm.eq_1 <| And.intro @dm.eq_2 <| And.intro @dm.eq_3 <| And.intro @live.eq_1 <| And.intro @lS.eq_1 <| And.intro @lS.eq_2 <| And.intro @Ds.nN.eq_1 <| And.intro @Ds.nN.eq_2 <| And.intro @Ds.nN.eq_3 <| And.intro @cm.eq_1 <| And.intro @cm.eq_2 <| And.intro @cm.eq_3 <| And.intro @cm.eq_4 <| And.intro @cm.eq_5 <| And.intro @cm.eq_6 <| And.intro @fI.eq_1 <| And.intro @fI.eq_2 <| And.intro @fI.eq_3 <| And.intro @fI.eq_4 <| And.intro @fI.eq_5 <| And.intro @fI.eq_6 <| And.intro @nx.eq_1 <| And.intro @nx.eq_2 <| And.intro @wG.eq_1 <| And.intro @wG.eq_2 <| And.intro @wG.eq_3 <| And.intro @wG.eq_4 <| And.intro @alive.eq_1 <| And.intro @alive.eq_2 <| And.intro @alive.eq_3 <| And.intro @nm.eq_1 <| And.intro @nm.eq_2 <| And.intro @iC.eq_1 <| And.intro @iC.eq_2 <| And.intro @iC.eq_3 <| And.intro @iC.eq_4 <| And.intro @iC.eq_5 <| And.intro @iC.eq_6 <| And.intro @cJ.eq_1 <| And.intro @cJ.eq_2 <| And.intro @oe.eq_1 <| And.intro @iU.eq_1 <| And.intro @iU.eq_2 <| And.intro @iU.eq_3 <| And.intro @kx.eq_1 <| And.intro @kx.eq_2 <| And.intro @Ft.eq_1 <| And.intro @bJ.eq_1 <| And.intro @bJ.eq_2 <| And.intro @bJ.eq_3 <| And.intro @bJ.eq_4 <| And.intro @fF.eq_1 <| And.intro @fF.eq_2 <| And.intro @fF.eq_3 <| And.intro @cz.eq_1 <| And.intro @cz.eq_2 <| And.intro @cz.eq_3 <| And.intro @cz.eq_4 <| And.intro @cz.eq_5 <| And.intro @cz.eq_6 <| And.intro @eB.eq_1 <| And.intro @gP.eq_1 <| And.intro @gP.eq_2 <| And.intro @fieldAt.eq_1 <| And.intro @du.eq_1 <| And.intro @n9.eq_1 <| And.intro @iA.eq_1 <| And.intro @content.eq_1 <| And.intro @content.eq_2 <| And.intro @content.eq_3 <| And.intro @putCells.eq_1 <| And.intro @P3.eq_1 <| And.intro @P3.eq_2 <| And.intro @P3.eq_3 <| And.intro @P3.eq_4 <| And.intro @Lq.eq_1 <| And.intro @Lq.eq_2 <| And.intro @Lq.eq_3 <| And.intro @Lq.eq_4 <| And.intro @Pc.eq_1 <| And.intro @Pc.eq_2 <| And.intro @Pc.eq_3 <| And.intro @eV.eq_1 <| And.intro @eV.eq_2 <| And.intro @eV.eq_3 <| And.intro @kindOk.eq_1 <| And.intro @kindOk.eq_2 <| And.intro @kindOk.eq_3 <| And.intro @kindOk.eq_4 <| And.intro @jC.eq_1 <| And.intro @jC.eq_2 <| And.intro @jC.eq_3 <| And.intro @jC.eq_4 <| And.intro @l6.eq_1 <| And.intro @l6.eq_2 <| And.intro @l6.eq_3 <| And.intro @l6.eq_4 <| And.intro @l6.eq_5 <| And.intro @l6.eq_6 <| And.intro @l6.eq_7 <| And.intro @l6.eq_8 <| And.intro @qG.eq_1 <| And.intro @qG.eq_2 <| And.intro @qG.eq_3 <| And.intro @aZ.eq_1 <| And.intro @aZ.eq_2 <| And.intro @aZ.eq_3 <| And.intro @aZ.eq_4 <| And.intro @aZ.eq_5 <| And.intro @aZ.eq_6 <| And.intro @aZ.eq_7 <| And.intro @pf.eq_1 <| And.intro @pf.eq_2 <| And.intro @rC.eq_1 <| And.intro @rC.eq_2 <| And.intro @rC.eq_3 <| @rC.eq_4
theorem W0:type_of% (And.intro @Ed <| And.intro @Eb <| And.intro @Ec <| And.intro @NI <| And.intro @Jo <| And.intro @Je <| And.intro @Ji <| And.intro @Fj <| And.intro @I8 <| And.intro @I9 <| And.intro @BT <| And.intro @Jb <| And.intro @Ja <| And.intro @E8 <| And.intro @JC <| And.intro @JF <| And.intro @Nn <| And.intro @AD <| And.intro @AE <| And.intro @Ee <| And.intro @NJ <| And.intro @Jp <| And.intro @Jf <| And.intro @Fk <| And.intro @Jj <| And.intro @BY <| And.intro @Jl <| And.intro @Jk <| And.intro @Fb <| And.intro @No <| @AF):=And.intro @Ed <| And.intro @Eb <| And.intro @Ec <| And.intro @NI <| And.intro @Jo <| And.intro @Je <| And.intro @Ji <| And.intro @Fj <| And.intro @I8 <| And.intro @I9 <| And.intro @BT <| And.intro @Jb <| And.intro @Ja <| And.intro @E8 <| And.intro @JC <| And.intro @JF <| And.intro @Nn <| And.intro @AD <| And.intro @AE <| And.intro @Ee <| And.intro @NJ <| And.intro @Jp <| And.intro @Jf <| And.intro @Fk <| And.intro @Jj <| And.intro @BY <| And.intro @Jl <| And.intro @Jk <| And.intro @Fb <| And.intro @No <| @AF
end Go.Proofs.YtpkahnkoecbndaaGreatDoor.Am
namespace Go.Proofs.YtpkahnkoecbndaaGreatDoor.Am
open Go.RowKit Go.Proofs.YtpkahnkoecbndaaGreatDoor.P
set_option linter.unusedSimpArgs false
set_option linter.unusedVariables false
section
variable {T:Nat→Option Ty} {Γ:Env} {N F e:Nat} {Q Q':Kt} {t:Nat→D} {h:Nat→Option Row}
theorem gI (hm : ∀ x t h e,Q x t h e→Q' x t h e) : ∀ (ws:List W) (x:Ex) (t:Nat→D) (h:Nat→Option Row) (e:Nat),cT T Γ N F ws Q x t h e→cT T Γ N F ws Q' x t h e
 | [],x,t,h,e,hk=>hm _ _ _ _ hk
 | .code c::ws,x,t,h,e,hk=>by
  unfold cT at hk ⊢
  cases x with
  | normal=>exact P1 c t h e _ _ hk (fun x t h e hx=>gI hm ws x t h e hx)
  | exit n=>exact gI hm ws _ t h e hk
  | ret=>exact gI hm ws _ t h e hk
 | .blk id::ws,x,t,h,e,hk=>by
  unfold cT Qw at hk ⊢
  cases x with
  | normal=>exact gI hm ws _ t h e hk
  | exit n =>
   simp only at hk ⊢
   split at hk
   ·rename_i hn; rw [if_pos hn]; exact gI hm ws _ t h e hk
   ·rename_i hn; rw [if_neg hn]; exact gI hm ws _ t h e hk
  | ret=>exact gI hm ws _ t h e hk
theorem nJ : ∀ (ws:List W) (k:Nat),cT T Γ N F ws Q=cT T Γ N F (ws.take k) (cT T Γ N F (ws.drop k) Q)
 | ws,0=>by simp [cT]
 | [],k+1=>by simp [cT]
 | .code c::ws,k+1=>by
  rw [List.take_succ_cons,List.drop_succ_cons]
  funext x t h e
  unfold cT
  rw [nJ ws k]
 | .blk id::ws,k+1=>by
  rw [List.take_succ_cons,List.drop_succ_cons]
  funext x t h e
  unfold cT
  rw [nJ ws k]
variable {σ:Type} {ops l:List Oper} {ws:List W} {dst:Option Nat} {fs:List kn} {d:D} {g:Nat}
theorem qM {J:σ→(Nat→D)→(Nat→Option Row)→Nat→Prop} {P:σ→Prop} {R:Kt} (hrest : ∀ s t h e,J s t h e→P s→R .normal t h e) : ∀ x t h e,CK J P R x t h e→R x t h e:=by
 intro x t h e hx
 cases x with
 | normal=>obtain ⟨s,h1,h2⟩:=hx; exact hrest s t h e h2 h1
 | exit n=>exact hx
 | ret=>exact hx
theorem tJ (hm : ∀ x t h e,Q x t h e→Q' x t h e) (hk:kL T Γ N F ops l ws Q t h e):kL T Γ N F ops l ws Q' t h e:=tL (fun t h hh=>gI hm ws _ _ _ _ hh) _ _ _ hk
theorem tK (hm : ∀ x t h e,Q x t h e→Q' x t h e) (hk:kM T Γ N F ops l ws Q t h e fs):kM T Γ N F ops l ws Q' t h e fs:=tI (fun t h fs hh=>⟨hh.1,gI hm ws _ _ _ _ hh.2⟩) _ _ _ _ hk
theorem qD (k:Nat):kL T Γ N F ops l ws Q t h e=kL T Γ N F ops l (ws.take k) (cT T Γ N F (ws.drop k) Q) t h e:=by unfold kL; rw [nJ ws k]
theorem qE (k:Nat):kM T Γ N F ops l ws Q t h e fs=kM T Γ N F ops l (ws.take k) (cT T Γ N F (ws.drop k) Q) t h e fs:=by unfold kM; rw [nJ ws k]
theorem Ey (k:Nat) {o:Oper} : n0 T Γ N F o ops l ws Q t h e=n0 T Γ N F o ops l (ws.take k) (cT T Γ N F (ws.drop k) Q) t h e:=by
 unfold n0
 congr 1
 funext t E
 rw [qD k]
theorem EG (k:Nat) {o:Oper} : n5 T Γ N F o ops l ws Q t h e fs=n5 T Γ N F o ops l (ws.take k) (cT T Γ N F (ws.drop k) Q) t h e fs:=by
 unfold n5
 congr 1
 funext t E
 rw [qE k]
theorem Iw {o:Oper} (hm : ∀ x t h e,Q x t h e→Q' x t h e) (hk:n0 T Γ N F o ops l ws Q t h e):n0 T Γ N F o ops l ws Q' t h e:=xd hk fun _ _ hh=>tJ hm hh
theorem IC {o:Oper} (hm : ∀ x t h e,Q x t h e→Q' x t h e) (hk:n5 T Γ N F o ops l ws Q t h e fs):n5 T Γ N F o ops l ws Q' t h e fs:=xd hk fun _ _ hh=>tK hm hh
variable (k:Nat) (J:σ→(Nat→D)→(Nat→Option Row)→Nat→Prop) (P:σ→Prop)
theorem l7 {x y:Code} (hrest : ∀ s t h e,J s t h e→P s→cT T Γ N F (ws.drop k) Q .normal t h e) (hc:HA T Γ N F d g x y (ws.take k) (CK J P (cT T Γ N F (ws.drop k) Q)) t h e):HA T Γ N F d g x y ws Q t h e:=by
 unfold HA at hc ⊢
 have e1 : ∀ c:Code,cT T Γ N F (.code c::ws) Q=cT T Γ N F (.code c::ws.take k) (cT T Γ N F (ws.drop k) Q):=fun c=>nJ (.code c::ws) (k+1)
 rw [e1,e1]
 exact xb hc (fun _ hh=>gI (qM hrest) _ _ _ _ _ hh) (fun _ hh=>gI (qM hrest) _ _ _ _ _ hh)
theorem bV {want:Bool} {o:Oper} (hrest : ∀ s t h e,J s t h e→P s→cT T Γ N F (ws.drop k) Q .normal t h e) (hc:tY T Γ N F d g want o ops l (ws.take k) (CK J P (cT T Γ N F (ws.drop k) Q)) t h e):tY T Γ N F d g want o ops l ws Q t h e:=by
 unfold tY at hc ⊢
 refine C4 hc (fun t hh => ?_) (fun t hh => ?_) (fun t hh => ?_)
 ·cases want
  ·simp only [Bool.false_eq_true,if_false] at hh ⊢; rw [qD k]; exact tJ (qM hrest) hh
  ·simp only [if_true] at hh ⊢; rw [Ey k]; exact Iw (qM hrest) hh
 ·cases want
  ·simp only [Bool.false_eq_true,if_false] at hh ⊢; rw [Ey k]; exact Iw (qM hrest) hh
  ·simp only [if_true] at hh ⊢; rw [qD k]; exact tJ (qM hrest) hh
 ·rw [qD k]; exact tJ (qM hrest) hh
theorem KT {want:Bool} {o:Oper} (hrest : ∀ s t h e,J s t h e→P s→cT T Γ N F (ws.drop k) Q .normal t h e) (hc:tZ T Γ N F d g want o ops l (ws.take k) (CK J P (cT T Γ N F (ws.drop k) Q)) t h e fs):tZ T Γ N F d g want o ops l ws Q t h e fs:=by
 unfold tZ at hc ⊢
 refine C4 hc (fun t hh => ?_) (fun t hh => ?_) (fun t hh => ?_)
 ·cases want
  ·simp only [Bool.false_eq_true,if_false] at hh ⊢; rw [qE k]; exact tK (qM hrest) hh
  ·simp only [if_true] at hh ⊢; rw [EG k]; exact IC (qM hrest) hh
 ·cases want
  ·simp only [Bool.false_eq_true,if_false] at hh ⊢; rw [EG k]; exact IC (qM hrest) hh
  ·simp only [if_true] at hh ⊢; rw [qE k]; exact tK (qM hrest) hh
 ·rw [qE k]; exact tK (qM hrest) hh
end
end Go.Proofs.YtpkahnkoecbndaaGreatDoor.Am
namespace Go.Proofs.YtpkahnkoecbndaaGreatDoor.Am
open Go.RowKit Go.Proofs.YtpkahnkoecbndaaGreatDoor.P
set_option linter.unusedSimpArgs false
set_option linter.unusedVariables false
noncomputable def P5 {α β γ:Type} (ty:Nat) (E:jH γ) (A:l9 α) (F:List γ→α→Option (List γ×β)) (R:β→RK):Option (D×Row)→List D→Option (RK×Option Row):=fun lent ds =>
 match lent with
 | some (.buf 0 0 s o n,⟨0,ty',cells,false,true,false⟩)=>open Classical in
  if h:ty'=ty∧s=E.size∧∃ p:List D×List γ×List D×α,cells=p.1++(ab E p.2.1++p.2.2.1)∧o=p.1.length∧n=p.2.1.length∧ds=A.ds p.2.2.2 then
   (F (Classical.choose h.2.2).2.1 (Classical.choose h.2.2).2.2.2).map fun r=>(R r.2,some ⟨0,ty,(Classical.choose h.2.2).1++(ab E r.1++(Classical.choose h.2.2).2.2.1),false,true,false⟩)
  else none
 | _=>none
theorem OR {γ:Type} {E:jH γ} {p p' q q':List D} {l l':List γ} (h:p++(ab E l++q)=p'++(ab E l'++q')) (hp:p.length=p'.length) (hl:l.length=l'.length):p=p'∧l=l'∧q=q':=by
 obtain ⟨h1,h2⟩:=List.append_inj h hp
 obtain ⟨h3,h4⟩:=List.append_inj h2 (by rw [cW,cW,hl])
 exact ⟨h1,rQ E _ _ h3,h4⟩
theorem Cb {α β γ:Type} (ty:Nat) (E:jH γ) (A:l9 α) (F:List γ→α→Option (List γ×β)) (R:β→RK) (pre post:List D) (l:List γ) (a:α) :
  P5 ty E A F R (some (.buf 0 0 E.size pre.length l.length,⟨0,ty,pre++(ab E l++post),false,true,false⟩)) (A.ds a)=(F l a).map fun r=>(R r.2,some ⟨0,ty,pre++(ab E r.1++post),false,true,false⟩):=by
 have h:ty=ty∧E.size=E.size∧∃ p:List D×List γ×List D×α,pre++(ab E l++post)=p.1++(ab E p.2.1++p.2.2.1)∧pre.length=p.1.length∧l.length=p.2.1.length∧A.ds a=A.ds p.2.2.2:=⟨rfl,rfl,(pre,l,post,a),rfl,rfl,rfl,rfl⟩
 simp only [P5]
 rw [dif_pos h]
 obtain ⟨h1,h2,h3,h4⟩:=Classical.choose_spec h.2.2
 obtain ⟨e1,e2,e3⟩:=OR h1 h2 h3
 rw [← A.inj _ _ h4,← e1,← e2,← e3]
theorem J2 {α β γ:Type} {ty:Nat} {E:jH γ} {A:l9 α} {F:List γ→α→Option (List γ×β)} {R:β→RK} {lent:Option (D×Row)} {ds:List D} {rk:RK} {out:Option Row} (h:P5 ty E A F R lent ds=some (rk,out)) :
  ∃ pre l post a l' r,lent=some (.buf 0 0 E.size pre.length l.length,⟨0,ty,pre++(ab E l++post),false,true,false⟩)∧ds=A.ds a∧F l a=some (l',r)∧rk=R r∧out=some ⟨0,ty,pre++(ab E l'++post),false,true,false⟩:=by
 unfold P5 at h
 split at h
 ·split at h
  ·rename_i he
   obtain ⟨rfl,rfl,he⟩:=he
   rw [Option.map_eq_some_iff] at h
   obtain ⟨⟨l',r⟩,h1,h2⟩:=h
   simp only [Prod.mk.injEq] at h2
   obtain ⟨rfl,rfl⟩:=h2
   obtain ⟨g1,g2,g3,g4⟩:=Classical.choose_spec he
   refine ⟨_,_,_,_,l',r,?_,g4,h1,rfl,rfl⟩
   rw [← g1,← g2,← g3]
  ·cases h
 ·cases h
theorem bW.NW {P:Program} {T:Nat→Option Ty} {Γ:Env} (hT:kT P T) (hΓ:b7 P Γ) (hm:P.follows .mixedOrders=true) {α β γ:Type} {ty:Nat} {E:jH γ} {A:l9 α} {F:List γ→α→Option (List γ×β)} {R:β→RK} {mode:Mode} {f:FuncId} {fn:Func} (hf:P.funcs[f]? = some fn) (hok:(match fn.body with | some c=>codeOk c | none=>true)=true)
  (hc:(fn.name == "runtime.NumGoroutine")=false∧fn.body.isNone=false) (hn : ∀ a,(A.ds a).length+1≤fn.ntmps)
  (h : ∀ pre post l a l' r,F l a=some (l',r)→aX mode T Γ FU fn (some (.buf 0 0 E.size pre.length l.length,⟨0,ty,pre++(ab E l++post),false,true,false⟩)) (A.ds a)=some (R r,some ⟨0,ty,pre++(ab E l'++post),false,true,false⟩)):bW P f (P5 ty E A F R) where
 calls lent X5 rk out hg:=by
  obtain ⟨pre,l,post,a,l',r,rfl,rfl,hr,rfl,rfl⟩:=J2 hg
  exact ki hT hΓ hm hf hok (hn a) rfl (h pre post l a l' r hr)
 callable:=⟨fn,hf,hc⟩
noncomputable def Ux {α γ:Type} (ty:Nat) (E:jH γ) (A:l9 α) (F:List γ→α→Option (List γ)):Option (D×Row)→List D→Option (RK×Option Row):=fun lent ds =>
 match lent with
 | some (.buf 0 0 s o n,⟨0,ty',cells,false,true,false⟩)=>open Classical in
  if h:ty'=ty∧s=E.size∧∃ p:List D×List γ×List D×α,cells=p.1++(ab E p.2.1++p.2.2.1)∧o=p.1.length∧n=p.2.1.length∧ds=A.ds p.2.2.2 then
   (F (Classical.choose h.2.2).2.1 (Classical.choose h.2.2).2.2.2).map fun r=>(.fresh ty E.size r.length (ab E r),none)
  else none
 | _=>none
theorem Rw {α γ:Type} (ty:Nat) (E:jH γ) (A:l9 α) (F:List γ→α→Option (List γ)) (pre post:List D) (l:List γ) (a:α) :
  Ux ty E A F (some (.buf 0 0 E.size pre.length l.length,⟨0,ty,pre++(ab E l++post),false,true,false⟩)) (A.ds a)=(F l a).map fun r=>(.fresh ty E.size r.length (ab E r),none):=by
 have h:ty=ty∧E.size=E.size∧∃ p:List D×List γ×List D×α,pre++(ab E l++post)=p.1++(ab E p.2.1++p.2.2.1)∧pre.length=p.1.length∧l.length=p.2.1.length∧A.ds a=A.ds p.2.2.2:=⟨rfl,rfl,(pre,l,post,a),rfl,rfl,rfl,rfl⟩
 simp only [Ux]
 rw [dif_pos h]
 obtain ⟨h1,h2,h3,h4⟩:=Classical.choose_spec h.2.2
 obtain ⟨e1,e2,e3⟩:=OR h1 h2 h3
 rw [← A.inj _ _ h4,← e2]
theorem J1 {α γ:Type} {ty:Nat} {E:jH γ} {A:l9 α} {F:List γ→α→Option (List γ)} {lent:Option (D×Row)} {ds:List D} {rk:RK} {out:Option Row} (h:Ux ty E A F lent ds=some (rk,out)) :
  ∃ pre l post a r,lent=some (.buf 0 0 E.size pre.length l.length,⟨0,ty,pre++(ab E l++post),false,true,false⟩)∧ds=A.ds a∧F l a=some r∧rk = .fresh ty E.size r.length (ab E r)∧out=none:=by
 unfold Ux at h
 split at h
 ·split at h
  ·rename_i he
   obtain ⟨rfl,rfl,he⟩:=he
   rw [Option.map_eq_some_iff] at h
   obtain ⟨r,h1,h2⟩:=h
   simp only [Prod.mk.injEq] at h2
   obtain ⟨rfl,rfl⟩:=h2
   obtain ⟨g1,g2,g3,g4⟩:=Classical.choose_spec he
   refine ⟨(Classical.choose he).1,(Classical.choose he).2.1,(Classical.choose he).2.2.1,(Classical.choose he).2.2.2,r,?_,g4,h1,rfl,rfl⟩
   rw [← g1,← g2,← g3]
  ·cases h
 ·cases h
theorem bW.V0 {P:Program} {T:Nat→Option Ty} {Γ:Env} (hT:kT P T) (hΓ:b7 P Γ) (hm:P.follows .mixedOrders=true) {α γ:Type} {ty:Nat} {E:jH γ} {A:l9 α} {F:List γ→α→Option (List γ)} {f:FuncId} {fn:Func} (hf:P.funcs[f]? = some fn) (hok:(match fn.body with | some c=>codeOk c | none=>true)=true)
  (hc:(fn.name == "runtime.NumGoroutine")=false∧fn.body.isNone=false) (hn : ∀ a,(A.ds a).length+1≤fn.ntmps)
  (h : ∀ pre post l a r,F l a=some r→aX (.fresh ty E.size) T Γ FU fn (some (.buf 0 0 E.size pre.length l.length,⟨0,ty,pre++(ab E l++post),false,true,false⟩)) (A.ds a)=some (.fresh ty E.size r.length (ab E r),none)):bW P f (Ux ty E A F) where
 calls lent X5 rk out hg:=by
  obtain ⟨pre,l,post,a,r,rfl,rfl,hr,rfl,rfl⟩:=J1 hg
  exact ki hT hΓ hm hf hok (hn a) rfl (h pre post l a r hr)
 callable:=⟨fn,hf,hc⟩
theorem bW.zero {P:Program} {f:FuncId} {fn:Func} (hf:P.funcs[f]? = some fn) (hc:(fn.name == "runtime.NumGoroutine")=false∧fn.body.isNone=false) {α β:Type} {A:l9 α} {F:α→Option β} {R:β→RK} (h0 : ∀ a,F a=none):bW P f (eZ A F R) where
 calls lent X5 rk out hg:=by
  obtain ⟨rfl,rfl,a,r,rfl,hr,rfl⟩:=pe hg
  rw [h0] at hr
  cases hr
 callable:=⟨fn,hf,hc⟩
section
variable {h:Nat→Option Row} {Γ:Env} {g e x v d:Nat} {dst:Option Nat} {fr:List Nat} {X5 rest:List D} {d0:D} {T:Nat→Option Ty} {rs:List ResultVar}
def HT (h:Nat→Option Row) (e:Nat) (dst:Option Nat) (x v:Nat) (fr:List Nat):Option (RK×Option Row)→Option dB
 | some (.clean c,some r1)=>some ⟨c,iL h fr++[(x,some { r1 with v:=v })]⟩
 | some (.same s o n,some r1)=>some ⟨.buf x v s o n,iL h fr++[(x,some { r1 with v:=v })]⟩
 | some (.fresh ty s n cells,none) =>
  match dst with
  | some d=>if fr.contains d=false then some ⟨.buf d e s 0 n,iL h fr++[(x,none),(d,some ⟨e,ty,cells,false,true,false⟩)]⟩ else none
  | none=>none
 | _=>none
def QB (Γ:Env) (h:Nat→Option Row) (e:Nat) (dst:Option Nat) (g x v:Nat) (d0:D) (r:Row):Option (List D×List Nat)→Option dB
 | some (X5,fr)=>if fr.contains x=false then HT h e dst x v fr (Γ.sem g (some (d0,r)) X5) else none
 | none=>none
def QA (Γ:Env) (h:Nat→Option Row) (e:Nat) (dst:Option Nat) (g x v:Nat) (d0:D) (rest:List D):Option Row→Option dB
 | some r=>if r.fz=false then QB Γ h e dst g x v d0 { r with v:=0 } (cf h rest) else none
 | none=>none
theorem HU {s o n:Nat} : C9 true Γ h e dst g (.buf x v s o n::rest)=QA Γ h e dst g x v (.buf 0 0 s o n) rest (live h x v):=by
 simp only [C9,if_true,qP]
 cases live h x v with
 | none=>rfl
 | some r =>
  simp only [QA]
  cases cf h rest with
  | none=>rfl
  | some p=>rfl
theorem AG {r:Row} : QA Γ h e dst g x v d0 rest (some r)=if r.fz=false then QB Γ h e dst g x v d0 { r with v:=0 } (cf h rest) else none:=Eq.trans rfl rfl
theorem AH {r:Row} : QB Γ h e dst g x v d0 r (some (X5,fr))=if fr.contains x=false then HT h e dst x v fr (Γ.sem g (some (d0,r)) X5) else none:=Eq.trans rfl rfl
theorem yn {c:D} {v' ty:Nat} {cells:List D} {fz lst:Bool} : HT h e dst x v fr (some (.clean c,some ⟨v',ty,cells,fz,lst,false⟩))=some ⟨c,iL h fr++[(x,some ⟨v,ty,cells,fz,lst,false⟩)]⟩:=Eq.trans rfl rfl
theorem AI {s o n v' ty:Nat} {cells:List D} {fz lst:Bool} : HT h e dst x v fr (some (.same s o n,some ⟨v',ty,cells,fz,lst,false⟩))=some ⟨.buf x v s o n,iL h fr++[(x,some ⟨v,ty,cells,fz,lst,false⟩)]⟩:=Eq.trans rfl rfl
theorem yo {s n ty:Nat} {cells:List D} : HT h e (some d) x v fr (some (.fresh ty s n cells,none))=if fr.contains d=false then some ⟨.buf d e s 0 n,iL h fr++[(x,none),(d,some ⟨e,ty,cells,false,true,false⟩)]⟩ else none:=Eq.trans rfl rfl
theorem yM {ty sz i:Nat} {t:Nat→D} {l:D×Row} : gG (.fresh ty sz) T (some l) [.tmp i] ⟨t,h,e⟩=lk ty sz h (t i):=Eq.trans rfl rfl
def VR (y v s o:Nat):Option Row→Option Ty→Option (Nat×Nat)→Option dB
 | some _,some φ,some (l,k)=>if φ.size=s∧0<s then some ⟨.buf y v s (o+l*s) (k - l),[]⟩ else none
 | _,_,_=>none
theorem ET {y v s o l k:Nat} {r:Row} {φ:Ty} : VR y v s o (some r) (some φ) (some (l,k))=if φ.size=s∧0<s then some ⟨.buf y v s (o+l*s) (k - l),[]⟩ else none:=Eq.trans rfl rfl
theorem NH {el b c y v s o n:Nat} {z:List Value} {q:Bool} {lo hi:Option D} : cz T ⟨.slice el,b,c,z,q⟩ h (.buf y v s o n) lo hi none=VR y v s o (live h y v) (T el) (rC n lo hi):=by
 simp only [cz]
 cases live h y v with
 | none=>rfl
 | some r =>
  simp only
  cases T el with
  | none=>rfl
  | some φ =>
   cases rC n lo hi with
   | none=>rfl
   | some p=>rfl
def U2 (ty:Nat):Option (List D×List Nat)→Option Row→Option (RK×Option Row)
 | some (ds,fr),some r=>if r.v=0∧r.fz=false∧r.ty=ty∧r.mp=false∧fr.contains 0=false then some (.clean (oQ ds),some r) else none
 | _,_=>none
theorem EP {ty:Nat} {ds:List D} {r:Row} : U2 ty (some (ds,fr)) (some r)=if r.v=0∧r.fz=false∧r.ty=ty∧r.mp=false∧fr.contains 0=false then some (.clean (oQ ds),some r) else none:=Eq.trans rfl rfl
theorem ER {t:Nat→D} {ty v:Nat} {cells:List D} {fz lst:Bool} : gG .clean T (some (d0,⟨v,ty,cells,fz,lst,false⟩)) rs ⟨t,h,e⟩=U2 ty (vt T ⟨t,h,e⟩ rs) (h 0):=by
 simp only [gG,rR,kA,TE,U2]
 cases vt T ⟨t,h,e⟩ rs with
 | none=>rfl
 | some p =>
  obtain ⟨ds,fr⟩:=p
  cases h 0 with
  | none=>rfl
  | some r =>
   simp only
   by_cases h1:r.v=0∧r.fz=false∧r.ty=ty∧r.mp=false
   ·rw [if_pos h1]
    simp only [Bool.not_eq_true']
    by_cases h2:fr.contains 0=false
    ·rw [if_pos h2,if_pos ⟨h1.1,h1.2.1,h1.2.2.1,h1.2.2.2,h2⟩]
    ·rw [if_neg h2,if_neg (fun hh=>h2 hh.2.2.2.2)]
   ·rw [if_neg h1,if_neg (fun hh=>h1 ⟨hh.1,hh.2.1,hh.2.2.1,hh.2.2.2.1⟩)]
def Tn (ty:Nat):D→Option Row→Option (RK×Option Row)
 | .buf 0 0 s o n,some r=>if r.v=0∧r.fz=false∧r.ty=ty∧r.mp=false then some (.same s o n,some r) else none
 | _,_=>none
theorem IM {ty s o n:Nat} {r:Row} : Tn ty (.buf 0 0 s o n) (some r)=if r.v=0∧r.fz=false∧r.ty=ty∧r.mp=false then some (.same s o n,some r) else none:=Eq.trans rfl rfl
theorem ES {t:Nat→D} {ty v i:Nat} {cells:List D} {fz lst:Bool} : gG .same T (some (d0,⟨v,ty,cells,fz,lst,false⟩)) [.tmp i] ⟨t,h,e⟩=Tn ty (t i) (h 0):=by
 simp only [gG,zZ,kA]
 generalize t i=q
 cases q with
 | buf a b s o n =>
  cases h 0 with
  | none=>rcases a with _ | a <;> rcases b with _ | b <;> rfl
  | some r =>
   simp only
   by_cases h1:r.v=0∧r.fz=false∧r.ty=ty∧r.mp=false
   ·rcases a with _ | a <;> rcases b with _ | b <;> simp [Tn,h1]
   ·rcases a with _ | a <;> rcases b with _ | b <;> simp [Tn,h1]
 | _=>rfl
end
section
variable {α:Type} (E:jH α) {l m u x:List α} {y y':α} {i a b:Int} {pre post:List D}
theorem T0 (h:CN l a b=some x):ab E (l.take a.toNat)++(ab E x++ab E (l.drop b.toNat))=ab E l:=by
 unfold CN at h
 split at h
 ·rename_i hc
  cases h
  rw [← fY,← fY]
  congr 1
  have e:l.drop b.toNat=(l.drop a.toNat).drop (b.toNat - a.toNat):=by rw [List.drop_drop]; congr 1; omega
  rw [e,List.take_append_drop,List.take_append_drop]
 ·cases h
theorem T1 (h:CN l a b=some x):(ab E (l.take a.toNat)).length=a.toNat*E.size:=by
 unfold CN at h
 split at h
 ·rw [cW,List.length_take,Nat.min_eq_left (by omega)]
 ·cases h
theorem UJ (h:CN l a b=some x):x.length=b.toNat - a.toNat:=by
 unfold CN at h
 split at h
 ·cases h
  simp
  omega
 ·cases h
theorem TZ:ab E (l.take i.toNat)++(ab E u++ab E (l.drop b.toNat))=ab E (l.take i.toNat++(u++l.drop b.toNat)):=by rw [fY,fY]
theorem iY (h:P.idx l i=some y):(pre++(ab E l++post)).drop (pre.length+i.toNat*E.size)=E.cells y++(ab E (l.drop (i.toNat+1))++post):=by
 rw [← List.drop_drop,List.drop_left,List.drop_append_of_le_length (by rw [cW]; have:=aA E h; omega),aC E h,List.append_assoc]
theorem iZ (h:P.idx l i=some y):pre.length+i.toNat*E.size+E.size≤(pre++(ab E l++post)).length:=by
 have:=aA E h
 rw [List.length_append,List.length_append,cW]
 omega
theorem wN (h:P.idx l i=some y):putCells (pre++(ab E l++post)) (pre.length+i.toNat*E.size) (E.cells y')=pre++(ab E (l.set i.toNat y')++post):=by
 have h1:=RQ E (x':=y') h
 have hf:=aA E h
 have hl:=cW E l
 unfold putCells at h1 ⊢
 rw [← h1,E.len]
 have e1:(pre++(ab E l++post)).take (pre.length+i.toNat*E.size)=pre++(ab E l).take (i.toNat*E.size):=by
  rw [List.take_append,List.take_of_length_le (by omega),Nat.add_sub_cancel_left,List.take_append_of_le_length (by omega)]
 have e2:(pre++(ab E l++post)).drop (pre.length+i.toNat*E.size+E.size)=(ab E l).drop (i.toNat*E.size+E.size)++post:=by
  rw [Nat.add_assoc,List.drop_append,List.drop_eq_nil_of_le (by omega),Nat.add_sub_cancel_left,List.nil_append,List.drop_append_of_le_length (by omega)]
 rw [e1,e2]
 simp only [List.append_assoc]
theorem SR (h:CN l a b=some x) (hu:u.length=x.length):(l.take a.toNat++(u++l.drop b.toNat)).length=l.length:=by
 have hn:=UJ h
 unfold CN at h
 split at h
 ·simp only [List.length_append,List.length_take,List.length_drop]
  omega
 ·cases h
theorem TM (h:CN l 0 b=some x):pre.length+x.length*E.size≤(pre++(ab E l++post)).length∧((pre++(ab E l++post)).drop pre.length).take (x.length*E.size)=ab E x:=by
 obtain ⟨h1,h2,h3,h4,h5⟩:=CO E h
 have:=Nat.mul_le_mul_right E.size h3
 refine ⟨by rw [List.length_append,List.length_append,cW]; omega,?_⟩
 rw [List.drop_left,List.take_append_of_le_length (by rw [cW]; exact this),h5]
end
section
variable {h:Nat→Option Row} {Γ:Env} {e:Nat} {dst:Option Nat}
def XI:Option (D×List Nat)→Option (List D×List Nat)→Option (List D×List Nat)
 | some (d,fr),some (ds,fr')=>some (d::ds,fr++fr')
 | _,_=>none
theorem HS {d:D} {ds:List D} {fr fr':List Nat} : XI (some (d,fr)) (some (ds,fr'))=some (d::ds,fr++fr'):=Eq.trans rfl rfl
theorem H6:cM h []=some ([],[]):=Eq.trans rfl rfl
theorem Ek {d:D} {ds:List D} : cM h (d::ds)=XI (aU h d) (cM h ds):=by
 simp only [cM]
 cases aU h d with
 | none=>rfl
 | some x=>cases cM h ds <;> rfl
theorem Nr {k:IntKind} {n:Int} : aU h (.int k n)=some (.int k n,[]):=Eq.trans rfl rfl
theorem H5 {b:Bool} : aU h (.bool b)=some (.bool b,[]):=Eq.trans rfl rfl
theorem Nu {b:ByteArray} : aU h (.str b)=some (.str b,[]):=Eq.trans rfl rfl
theorem QI {a b:Bool} {n:Nat} {xs:List D} : aU h (.sl a b n xs)=some (.sl false false n xs,[]):=Eq.trans rfl rfl
theorem Nq {xs:List D} : aU h (.agg xs)=some (.agg (xs.map canon),[]):=Eq.trans rfl rfl
theorem QE {f:Nat} : aU h (.fn f)=some (.fn f,[]):=Eq.trans rfl rfl
def XJ (f k:Nat):Option (List D×List Nat)→Option (D×List Nat)
 | some (ys,fr)=>some (.clo f k ys,fr)
 | none=>none
theorem Ii {f k:Nat} {ys:List D} {fr:List Nat} : XJ f k (some (ys,fr))=some (.clo f k ys,fr):=Eq.trans rfl rfl
theorem Ia {f k:Nat} {xs:List D} : bT h (.clo f k xs)=XJ f k (cM h xs):=by
 simp only [bT]
 cases cM h xs <;> rfl
theorem H2 {g k:Nat} {caps args:List D} : gB Γ h e dst (.clo g k caps) args=if caps.all iN then C9 false Γ h e dst g (caps.take k++(args++caps.drop k)) else none:=by
 simp only [gB,C9,Bool.false_eq_true,if_false]
theorem N7 {k:IntKind} {n:Int} : iN (.int k n)=true:=Eq.trans rfl rfl
theorem Ki {b:Bool} : iN (.bool b)=true:=Eq.trans rfl rfl
theorem Oa {b:ByteArray} : iN (.str b)=true:=Eq.trans rfl rfl
theorem RF {a b:Bool} {n:Nat} {xs:List D} : iN (.sl a b n xs)=true:=Eq.trans rfl rfl
theorem N6 {xs:List D} : iN (.agg xs)=true:=Eq.trans rfl rfl
theorem RA {f:Nat} : iN (.fn f)=true:=Eq.trans rfl rfl
end
theorem Cz:oQ [] = .tup []:=Eq.trans rfl rfl
def XH (f:Nat):Arg Unit:=⟨fun _ => .fn f,fun _ _ _=>rfl⟩
def Qg {α:Type} (f k:Nat) (a:l9 α):Arg α:=⟨fun x => .clo f k (a.ds x),fun x y h=>a.inj _ _ (by simpa using h)⟩
theorem XT:type_of% (And.intro @HS <| And.intro @H6 <| And.intro @Ek <| And.intro @Nr <| And.intro @H5 <| And.intro @Nu <| And.intro @QI <| And.intro @Nq <| And.intro @QE <| And.intro @Ii <| And.intro @Ia <| And.intro @H2 <| And.intro @N7 <| And.intro @Ki <| And.intro @Oa <| And.intro @RF <| And.intro @N6 <| And.intro @RA <| And.intro @Cz <| And.intro @vQ <| And.intro @vS <| @zW):=And.intro @HS <| And.intro @H6 <| And.intro @Ek <| And.intro @Nr <| And.intro @H5 <| And.intro @Nu <| And.intro @QI <| And.intro @Nq <| And.intro @QE <| And.intro @Ii <| And.intro @Ia <| And.intro @H2 <| And.intro @N7 <| And.intro @Ki <| And.intro @Oa <| And.intro @RF <| And.intro @N6 <| And.intro @RA <| And.intro @Cz <| And.intro @vQ <| And.intro @vS <| @zW
theorem XS:type_of% (And.intro @Kv <| And.intro @List.contains_cons.{0} <| And.intro @NH <| And.intro @ET <| And.intro @yo <| And.intro @yM <| And.intro @HU <| And.intro @AG <| And.intro @AH <| And.intro @yn <| And.intro @AI <| And.intro @EP <| And.intro @ER <| And.intro @IM <| @ES):=And.intro @Kv <| And.intro @List.contains_cons.{0} <| And.intro @NH <| And.intro @ET <| And.intro @yo <| And.intro @yM <| And.intro @HU <| And.intro @AG <| And.intro @AH <| And.intro @yn <| And.intro @AI <| And.intro @EP <| And.intro @ER <| And.intro @IM <| @ES
section
variable {T:Nat→Option Ty} {h:Nat→Option Row} {τ:Ty} {q:Nat→Bool}
theorem Rs {x v o:Nat} : lN τ h (.ptr x v o)=nr τ h x v o (live h x v):=Eq.trans rfl rfl
theorem Uf {xs:List D} : lN τ h (.ip xs)=dm τ h (.ip xs):=Eq.trans rfl rfl
theorem Ud {x v o v' ty:Nat} {c:List D} {fz:Bool} : nr τ h x v o (some ⟨v',ty,c,fz,true,false⟩)=dm τ h (.ptr x v o):=by
 simp only [nr,Bool.not_true,Bool.and_false,Bool.false_eq_true,if_false]
theorem Ue {x v o v' ty:Nat} {c:List D} {lst:Bool} : nr τ h x v o (some ⟨v',ty,c,false,lst,false⟩)=dm τ h (.ptr x v o):=by
 simp only [nr,Bool.false_and,Bool.false_eq_true,if_false]
def Xt:Option D→Option dB→Option dB
 | some d,_=>some ⟨d,[]⟩
 | none,E=>E
theorem Jw {d:D} {E:Option dB} : Xt (some d) E=some ⟨d,[]⟩:=Eq.trans rfl rfl
theorem Jv {E:Option dB} : Xt none E=E:=Eq.trans rfl rfl
theorem Uc {x v o v' ty:Nat} {c:List D} : nr τ h x v o (some ⟨v',ty,c,true,false,false⟩)=if o+τ.size≤c.length then Xt (La τ.ds.nN ((c.drop o).take τ.size)) (dm τ h (.ptr x v o)) else none:=by
 simp only [nr,Bool.not_false,Bool.and_self,if_true]
 cases La τ.ds.nN ((c.drop o).take τ.size) <;> rfl
theorem Qn {x v s o n:Nat} : La true [.ali x v s o n]=some (.box1 x v s o n):=Eq.trans rfl rfl
theorem Qm {x v s o n:Nat} : La false [.ali x v s o n]=some (.buf x v s o n):=Eq.trans rfl rfl
theorem Ov {p:D} {k:IntKind} {n:Int} : cQ τ h p (.int k n)=cJ τ h p (.int k n):=Eq.trans rfl rfl
theorem KP {p:D} {b:Bool} : cQ τ h p (.bool b)=cJ τ h p (.bool b):=Eq.trans rfl rfl
theorem Ox {p:D} {b:ByteArray} : cQ τ h p (.str b)=cJ τ h p (.str b):=Eq.trans rfl rfl
theorem R9 {p:D} {a b:Bool} {n:Nat} {xs:List D} : cQ τ h p (.sl a b n xs)=cJ τ h p (.sl a b n xs):=Eq.trans rfl rfl
theorem Ow {p:D} {x v o:Nat} : cQ τ h p (.ptr x v o)=cJ τ h p (.ptr x v o):=Eq.trans rfl rfl
theorem R6 {p:D} {xs:List D} : cQ τ h p (.ip xs)=cJ τ h p (.ip xs):=Eq.trans rfl rfl
theorem Ot {p:D} {x v s o n:Nat} : cQ τ h p (.buf x v s o n)=cJ τ h p (.buf x v s o n):=Eq.trans rfl rfl
theorem Oo {p:D} {xs:List D} : cQ τ h p (.agg xs)=cJ τ h p (.agg xs):=Eq.trans rfl rfl
theorem R5 {p:D} {f:Nat} : cQ τ h p (.fn f)=cJ τ h p (.fn f):=Eq.trans rfl rfl
theorem Ou {p:D} {f k:Nat} {xs:List D} : cQ τ h p (.clo f k xs)=cJ τ h p (.clo f k xs):=Eq.trans rfl rfl
theorem Oy {p:D}  : cQ τ h p (.und)=cJ τ h p (.und):=Eq.trans rfl rfl
def Wr (τ:Ty) (x o y vy s oy n:Nat):Option Row→Option dB
 | some r=>if τ.size=1∧o=0∧r.cells.length=1∧r.fz=false∧r.lst=false then some ⟨.und,[(x,some ⟨r.v,r.ty,[.ali y vy s oy n],true,false,false⟩)]⟩ else none
 | none=>none
theorem FZ {x o y vy s oy n:Nat} {r:Row} : Wr τ x o y vy s oy n (some r)=if τ.size=1∧o=0∧r.cells.length=1∧r.fz=false∧r.lst=false then some ⟨.und,[(x,some ⟨r.v,r.ty,[.ali y vy s oy n],true,false,false⟩)]⟩ else none:=Eq.trans rfl rfl
theorem Oq {x v o y vy s oy n:Nat} : cQ τ h (.ptr x v o) (.box1 y vy s oy n)=Wr τ x o y vy s oy n (live h x v):=by
 simp only [cQ]
 cases live h x v <;> rfl
def HP (b:Bool) (T:Nat→Option Ty) (τ:Ty) (h:Nat→Option Row) (ps:List (Nat×D)):Option dB :=
 if b then eB T τ h ps else
  match τ.ds,ps with
  | .struct fs,[(0,.buf x v s o n)]=>if (alive h (.buf x v s o n))∧(fs.all fun f=>(T f.1).isSome)∧fieldAt T fs 0=some (0,1)∧τ.zero.length=1 then some ⟨.box1 x v s o n,[]⟩ else none
  | .struct fs,[(0,.box1 x v s o n)]=>if (alive h (.buf x v s o n))∧(fs.all fun f=>(T f.1).isSome)∧fieldAt T fs 0=some (0,1)∧τ.zero.length=1 then some ⟨.box1 x v s o n,[]⟩ else none
  | _,_=>cE (eB T τ h ps)
theorem Nl {d:Nat} {ps:List (Nat×D)} : nn q T τ h (some d) ps=HP (q d) T τ h ps:=Eq.trans rfl rfl
theorem D6:HP false T τ h []=cE (eB T τ h []):=by
 unfold HP
 rw [if_neg (by simp)]
 cases τ.ds <;> rfl
theorem Qx {cs:List D} {hw:List (Nat×Option Row)} : cE (some ⟨.agg cs,hw⟩)=some ⟨.agg (cs.map canon),hw⟩:=Eq.trans rfl rfl
theorem D7 {ps:List (Nat×D)} : HP true T τ h ps=eB T τ h ps:=Eq.trans rfl rfl
def Qu (T:Nat→Option Ty) (h:Nat→Option Row) (nz x v s o n:Nat):Ds→Option dB
 | .struct fs=>if (alive h (.buf x v s o n))∧(fs.all fun f=>(T f.1).isSome)∧fieldAt T fs 0=some (0,1)∧nz=1 then some ⟨.box1 x v s o n,[]⟩ else none
 | _=>none
theorem Qv {nz x v s o n:Nat} {fs:List (Nat×Nat)} : Qu T h nz x v s o n (.struct fs)=if (alive h (.buf x v s o n))∧(fs.all fun f=>(T f.1).isSome)∧fieldAt T fs 0=some (0,1)∧nz=1 then some ⟨.box1 x v s o n,[]⟩ else none:=Eq.trans rfl rfl
theorem HQ {x v s o n:Nat} : HP false T τ h [(0,.box1 x v s o n)]=Qu T h τ.zero.length x v s o n τ.ds:=by
 unfold HP Qu eB
 rw [if_neg (by simp)]
 cases τ.ds <;> rfl
theorem AA {x v s o n:Nat} : HP false T τ h [(0,.buf x v s o n)]=Qu T h τ.zero.length x v s o n τ.ds:=by
 unfold HP Qu eB
 rw [if_neg (by simp)]
 cases τ.ds <;> rfl
def Xq:Option (D×List Nat)→Option (D×List Nat)
 | some (d,fr)=>some (.agg [d],fr)
 | none=>none
theorem Ip {d:D} {fr:List Nat} : Xq (some (d,fr))=some (.agg [d],fr):=Eq.trans rfl rfl
theorem H8 {x v s o n:Nat} : bT h (.box1 x v s o n)=Xq (Tf x s o n (live h x v)):=by
 simp only [bT,aU,dk]
 cases live h x v with
 | none=>rfl
 | some r=>by_cases hc:o+n*s≤r.cells.length <;> simp [Tf,Xq,hc,canon]
theorem Rx {x v s o n:Nat} : nm (.box1 x v s o n)=[x]:=Eq.trans rfl rfl
theorem DZ {x v s o n:Nat} : alive h (.buf x v s o n)=(live h x v).isSome:=Eq.trans rfl rfl
theorem EY {fs:List (Nat×Nat)} {ft off:Nat} : fieldAt T ((ft,off)::fs) 0=(T ft).map fun φ=>(off,φ.size):=by
 simp only [fieldAt,List.getElem?_cons_zero]
 cases T ft <;> rfl
end
theorem XU:type_of% (And.intro @Rs <| And.intro @Uf <| And.intro @Ud <| And.intro @Ue <| And.intro @Jw <| And.intro @Jv <| And.intro @Uc <| And.intro @Qn <| And.intro @Qm <| And.intro @Ov <| And.intro @KP <| And.intro @Ox <| And.intro @R9 <| And.intro @Ow <| And.intro @R6 <| And.intro @Ot <| And.intro @Oo <| And.intro @R5 <| And.intro @Ou <| And.intro @Oy <| And.intro @Oq <| And.intro @FZ <| And.intro @Nl <| And.intro @D7 <| And.intro @Qv <| And.intro @AA <| And.intro @D6 <| And.intro @HQ <| And.intro @Qx <| And.intro @Ip <| And.intro @H8 <| And.intro @Rx <| And.intro @DZ <| @EY):=And.intro @Rs <| And.intro @Uf <| And.intro @Ud <| And.intro @Ue <| And.intro @Jw <| And.intro @Jv <| And.intro @Uc <| And.intro @Qn <| And.intro @Qm <| And.intro @Ov <| And.intro @KP <| And.intro @Ox <| And.intro @R9 <| And.intro @Ow <| And.intro @R6 <| And.intro @Ot <| And.intro @Oo <| And.intro @R5 <| And.intro @Ou <| And.intro @Oy <| And.intro @Oq <| And.intro @FZ <| And.intro @Nl <| And.intro @D7 <| And.intro @Qv <| And.intro @AA <| And.intro @D6 <| And.intro @HQ <| And.intro @Qx <| And.intro @Ip <| And.intro @H8 <| And.intro @Rx <| And.intro @DZ <| @EY
theorem v:type_of% (And.intro @XV <| And.intro @XW <| And.intro @XN <| And.intro @XO <| And.intro @XP <| And.intro @XQ <| And.intro @XR <| And.intro @XS <| And.intro @XT <| And.intro @XU <| And.intro @W0 <| And.intro @XZ <| And.intro @Option.toList_some.{0} <| @Option.toList_none.{0}):=And.intro @XV <| And.intro @XW <| And.intro @XN <| And.intro @XO <| And.intro @XP <| And.intro @XQ <| And.intro @XR <| And.intro @XS <| And.intro @XT <| And.intro @XU <| And.intro @W0 <| And.intro @XZ <| And.intro @Option.toList_some.{0} <| @Option.toList_none.{0}
end Go.Proofs.YtpkahnkoecbndaaGreatDoor.Am
namespace Go.Proofs.YtpkahnkoecbndaaGreatDoor.Am
open Go.RowKit Go.Proofs.YtpkahnkoecbndaaGreatDoor.P
set_option linter.unusedSimpArgs false
set_option linter.unusedVariables false
def B9 {α:Type} : List (Int×α)→List Int
 | []=>[]
 | (k,_)::m=>k::B9 m
def PB {α:Type} (A:Arg α):List (Int×α)→List D
 | []=>[]
 | (_,v)::m=>A.d v::PB A m
section
variable {α:Type} {A:Arg α}
theorem JW:B9 ([]:List (Int×α))=[]:=Eq.trans rfl rfl
theorem J0:PB A []=[]:=Eq.trans rfl rfl
theorem JV (n:Int) : ∀ m:List (Int×α),(B9 m).contains n=Tr m n
 | []=>rfl
 | (k,v)::m=>by
  have:=JV n m
  simp only [B9,List.contains_cons,Tr,this]
  congr 1
  exact Bool.beq_comm
theorem map_inj : ∀ {m m':List (Int×α)},B9 m=B9 m'→PB A m=PB A m'→m=m'
 | [],[],_,_=>rfl
 | [],(k,v)::m',h,_=>by simp [B9] at h
 | (k,v)::m,[],h,_=>by simp [B9] at h
 | (k,v)::m,(k',v')::m',h,g=>by
  simp only [B9,List.cons.injEq] at h
  simp only [PB,List.cons.injEq] at g
  rw [h.1,A.inj _ _ g.1,map_inj h.2 g.2]
end
def X1 {α:Type} (A:Arg α):jH (List (Int×α)):=⟨fun m=>[.mpc (B9 m) (PB A m)],1,fun _=>rfl,by decide,fun x y h=>by
 simp only [List.cons.injEq,D.mpc.injEq,and_true] at h
 exact map_inj h.1 h.2⟩
theorem II {α:Type} (A:Arg α):(X1 A).size=1:=Eq.trans rfl rfl
def Qh {α:Type} (e:jH α):Arg α:=⟨fun x => .ip (e.cells x),fun x y h=>e.inj _ _ (by simpa using h)⟩
theorem T7 {α:Type} (e:jH α) (x:α):(Qh e).d x = .ip (e.cells x):=Eq.trans rfl rfl
section
variable {T:Nat→Option Ty} {h:Nat→Option Row} {Γ:Env} {e:Nat} {dst:Option Nat}
def Xd (v:Nat):Option Row→Option (List Int×List D)
 | some r=>if r.v=v∧r.mp=true then (match r.cells with | [.mpc ks vs]=>some (ks,vs) | _=>none) else none
 | none=>none
theorem JB {x v:Nat} : gR h x v=Xd v (h x):=by
 unfold gR Xd
 cases h x <;> rfl
theorem JE {v ty:Nat} {ks:List Int} {vs:List D} {fz lst:Bool} : Xd v (some ⟨v,ty,[.mpc ks vs],fz,lst,true⟩)=some (ks,vs):=by simp [Xd]
def Xv (ks:List Int) (n:Int):Bool:=ks.contains n
theorem NY {α:Type} {m:List (Int×α)} {n:Int} : Xv (B9 m) n=Tr m n:=JV n m
def XL (ok:Bool) (z:D) (n:Int):Option (List Int×List D)→Option dB
 | some (ks,vs)=>some ⟨if ok then .tup [qX z ks vs n,.bool (Xv ks n)] else qX z ks vs n,[]⟩
 | none=>none
theorem Uv {z:D} {n:Int} {ks:List Int} {vs:List D} : XL true z n (some (ks,vs))=some ⟨.tup [qX z ks vs n,.bool (Xv ks n)],[]⟩:=Eq.trans rfl rfl
theorem Uu {z:D} {n:Int} {ks:List Int} {vs:List D} : XL false z n (some (ks,vs))=some ⟨qX z ks vs n,[]⟩:=Eq.trans rfl rfl
theorem JY {x v:Nat} : mapOf h (.mp x v)=gR h x v:=Eq.trans rfl rfl
theorem Fg {ks:List Int} {vs:List D} : mapOf h (.mpc ks vs)=some (ks,vs):=Eq.trans rfl rfl
def Xf (h:Nat→Option Row) (y:Nat) (n:Int) (d:D) (fr:List Nat) (ks:List Int) (vs:List D):Option Row→Option dB
 | some r=>if r.fz=false∧fr.contains y=false then some ⟨.und,iL h fr++[(y,some ⟨r.v,r.ty,[.mpc (zO ks n) (Hj ks vs n d)],false,true,true⟩)]⟩ else none
 | none=>none
theorem J6 {y v ty:Nat} {n:Int} {d:D} {fr:List Nat} {ks:List Int} {vs:List D} {cells:List D} {lst mp:Bool} : Xf h y n d fr ks vs (some ⟨v,ty,cells,false,lst,mp⟩)=if fr.contains y=false then some ⟨.und,iL h fr++[(y,some ⟨v,ty,[.mpc (zO ks n) (Hj ks vs n d)],false,true,true⟩)]⟩ else none:=by
 simp only [Xf,true_and]
def Xw (h:Nat→Option Row) (y:Nat) (n:Int) (d:D) (fr:List Nat):Option (List Int×List D)→Option dB
 | some (ks,vs)=>Xf h y n d fr ks vs (h y)
 | none=>none
theorem J5 {y:Nat} {n:Int} {d:D} {fr:List Nat} {ks:List Int} {vs:List D} : Xw h y n d fr (some (ks,vs))=Xf h y n d fr ks vs (h y):=Eq.trans rfl rfl
def X2 (h:Nat→Option Row) (y v:Nat) (n:Int):Option (D×List Nat)→Option dB
 | some (d,fr)=>Xw h y n d fr (gR h y v)
 | none=>none
theorem J4 {y v:Nat} {n:Int} {d:D} {fr:List Nat} : X2 h y v n (some (d,fr))=Xw h y n d fr (gR h y v):=Eq.trans rfl rfl
theorem KY {k:IntKind} {n:Int} : vx h (.int k n)=some (.int k n,[]):=Eq.trans rfl rfl
theorem F9 {b:Bool} : vx h (.bool b)=some (.bool b,[]):=Eq.trans rfl rfl
theorem KX {xs:List D} : vx h (.agg xs)=some (.agg (xs.map canon),[]):=Eq.trans rfl rfl
def Xb (τ:Ty) (h:Nat→Option Row) (x v y:Nat):Option Row→Option dB
 | some r=>match r.cells with
  | [.alm y' v']=>if r.fz=true∧r.lst=false∧τ.size=1∧τ.ds.nN=false then some ⟨.mp y' v',[]⟩ else none
  | _=>none
 | none=>nq τ h x v y (ka h x v)
theorem Ug {τ:Ty} {x v y:Nat} : lN τ h (.pm x v y)=Xb τ h x v y (live h x v):=by
 simp only [lN]
 cases live h x v with
 | none=>rfl
 | some r =>
  obtain ⟨v',ty,cells,fz,lst,mp⟩:=r
  rcases cells with _ | ⟨c,_ | ⟨c',cs⟩⟩ <;> rfl
theorem Jy {τ:Ty} {x v y:Nat} : Xb τ h x v y none=nq τ h x v y (ka h x v):=Eq.trans rfl rfl
def Xc (τ:Ty) (h:Nat→Option Row) (x y s n:Nat):Option Row→Option dB
 | some r=>if y=1000000+x∧r.mp=false∧r.lst=true∧r.cells.length=n*s∧τ.size=1 then some ⟨if τ.ds.nN then .agg [.sl false false n r.cells] else .sl false false n r.cells,iL h [y]⟩ else none
 | none=>none
theorem Rr {τ:Ty} {r:Row} {x v y s n:Nat} : nq τ h x v y (some (r,y,s,n))=Xc τ h x y s n (h y):=by
 simp only [nq,Xc,PK]
 cases h y with
 | none=>rfl
 | some q=>simp
theorem JA {ty b:Nat} {ds:Ds} {z:List Value} {q:Bool} {x y s n e':Nat} {cells:List D} {fz:Bool} : Xc ⟨ds,1,b,z,q⟩ h x y s n (some ⟨e',ty,cells,fz,true,false⟩)=if y=1000000+x∧cells.length=n*s then some ⟨if ds.nN then .agg [.sl false false n cells] else .sl false false n cells,iL h [y]⟩ else none:=by
 simp [Xc]
def U3 (T:Nat→Option Ty) (x v k:Nat):Option (Row×Nat×Nat×Nat)→Option (Nat×Nat)→Option dB
 | some _,some (ft,0)=>match T ft with | some φ=>if φ.size=0 then none else some ⟨.pm x v k,[]⟩ | none=>none
 | _,_=>none
theorem E3 {T:Nat→Option Ty} {x v k ft:Nat} {r:Row×Nat×Nat×Nat} : U3 T x v k (some r) (some (ft,0))=match T ft with | some φ=>if φ.size=0 then none else some ⟨.pm x v k,[]⟩ | none=>none:=Eq.trans rfl rfl
theorem Rb {T:Nat→Option Ty} {b c:Nat} {z:List Value} {q:Bool} {fs:List (Nat×Nat)} {x v k i:Nat} : dw T ⟨.struct fs,b,c,z,q⟩ h i (.pm x v k)=U3 T x v k (ka h x v) fs[i]?:=by
 simp only [dw,U3]
 cases ka h x v with
 | none=>rfl
 | some r=>simp only; generalize fs[i]? = z; rcases z with _ | ⟨ft,_ | off⟩ <;> first | rfl | (simp; done) | (simp only; cases T ft <;> rfl)
def On (x y s oy n k : Nat) : Option Row → Option Row → Option dB
  | some r, some q => if oy = 0 ∧ r.cells.length = 1 ∧ r.fz = false ∧ r.lst = false ∧ q.fz = false ∧ q.lst = true ∧ q.cells.length = n * s ∧ x ≠ y ∧ k = 1000000 + x then
          some ⟨.und, [(y, none), (k, some ⟨0, q.ty, q.cells, false, true, false⟩), (x, some ⟨r.v, r.ty, [.ph k s n], false, false, true⟩)]⟩ else none
  | _, _ => none
theorem R8 {ds:Ds} {b:Nat} {z:List Value} {q:Bool} {x v y vy s oy n k:Nat} : cQ ⟨ds,1,b,z,q⟩ h (.pm x v k) (.box1 y vy s oy n)=On x y s oy n k (live h x v) (live h y vy):=by
 simp only [cQ,On,PK,true_and]
 cases live h x v with
 | none=>rfl
 | some r=>cases live h y vy <;> rfl
theorem CQ {x y s oy n k v ty e' ty':Nat} {c:D} {cells:List D} : On x y s oy n k (some ⟨v,ty,[c],false,false,false⟩) (some ⟨e',ty',cells,false,true,false⟩)=if oy=0∧cells.length=n*s∧¬ x=y∧k=1000000+x then
  some ⟨.und,[(y,none),(k,some ⟨0,ty',cells,false,true,false⟩),(x,some ⟨v,ty,[.ph k s n],false,false,true⟩)]⟩ else none:=by
 simp [On]
theorem Jz {v ty y' v':Nat} {b k el:Nat} {z:List Value} {q mp:Bool} {x0 v0 y0:Nat} : Xb ⟨.map k el,1,b,z,q⟩ h x0 v0 y0 (some ⟨v,ty,[.alm y' v'],true,false,mp⟩)=some ⟨.mp y' v',[]⟩:=by
 simp [Xb,Ds.nN]
def TQ (τ:Ty) (x y y' v':Nat) (m:Bool):Option Row→Option dB
 | some r=>if τ.size=1∧y'=y∧r.cells.length=1∧r.fz=false∧r.lst=false∧m then some ⟨.und,[(x,some ⟨r.v,r.ty,[.alm y' v'],true,false,false⟩)]⟩ else none
 | none=>none
theorem R7 {τ:Ty} {x v y y' v':Nat} : cQ τ h (.pm x v y) (.mp y' v')=TQ τ x y y' v' (gR h y v').isSome (live h x v):=by
 simp only [cQ,TQ]
 cases live h x v <;> rfl
theorem FY {x y v' v ty:Nat} {c:D} {b:Nat} {ds:Ds} {z:List Value} {q mp:Bool} : TQ ⟨ds,1,b,z,q⟩ x y y v' true (some ⟨v,ty,[c],false,false,mp⟩)=some ⟨.und,[(x,some ⟨v,ty,[.alm y v'],true,false,false⟩)]⟩:=by
 simp [TQ]
theorem Uy {x v:Nat} : nm (.mp x v)=[x]:=Eq.trans rfl rfl
theorem Ry {ks:List Int} {vs:List D} : nm (.mpc ks vs)=[]:=Eq.trans rfl rfl
theorem Uz {x v y:Nat} : nm (.pm x v y)=[x,y]:=Eq.trans rfl rfl
def VO (x:Nat):Option (List Int×List D)→Option (D×List Nat)
 | some (ks,vs)=>some (.mpc ks vs,[x])
 | none=>none
theorem Ik {x:Nat} {ks:List Int} {vs:List D} : VO x (some (ks,vs))=some (.mpc ks vs,[x]):=Eq.trans rfl rfl
theorem Nx {x v:Nat} : bT h (.mp x v)=VO x (gR h x v):=by
 simp only [bT,aU,VO]
 cases gR h x v <;> rfl
theorem Ic {ks:List Int} {vs:List D} : bT h (.mpc ks vs)=some (.mpc ks vs,[]):=Eq.trans rfl rfl
theorem QG {x v:Nat} : aU h (.mp x v)=VO x (gR h x v):=by
 simp only [aU,VO]
 cases gR h x v <;> rfl
theorem Ns {ks:List Int} {vs:List D} : aU h (.mpc ks vs)=some (.mpc ks vs,[]):=Eq.trans rfl rfl
theorem QF {xs:List D} : aU h (.ip xs)=some (.ip xs,[]):=Eq.trans rfl rfl
theorem Nt {x v o:Nat} : aU h (.ptr x v o)=VP x o (live h x v):=by
 simp only [aU]
 cases live h x v with
 | none=>rfl
 | some r=>simp only [VP]
def Xo (x y:Nat):Option (List Int×List D)→Option (D×List Nat)
 | some (ks,vs)=>some (.ip [.mpc ks vs],[x,y])
 | none=>none
theorem Il {x y:Nat} {ks:List Int} {vs:List D} : Xo x y (some (ks,vs))=some (.ip [.mpc ks vs],[x,y]):=Eq.trans rfl rfl
def Xp (h:Nat→Option Row) (x y:Nat):Option Row→Option (D×List Nat)
 | some r=>match r.cells with
  | [.alm y' v']=>if r.fz=true∧r.lst=false∧y'=y then Xo x y (gR h y v') else none
  | _=>none
 | none=>none
theorem Io {x y v' v ty:Nat} {mp:Bool} : Xp h x y (some ⟨v,ty,[.alm y v'],true,false,mp⟩)=Xo x y (gR h y v'):=by
 simp [Xp]
theorem QH {x v y:Nat} : aU h (.pm x v y)=Xp h x y (live h x v):=by
 simp only [aU]
 cases live h x v with
 | none=>rfl
 | some r =>
  obtain ⟨v',ty,cells,fz,lst,mp⟩:=r
  rcases cells with _ | ⟨c,_ | ⟨c',cs⟩⟩ <;> rfl
theorem N9 {x v o:Nat} : iN (.ptr x v o)=true:=Eq.trans rfl rfl
theorem RE {x v y:Nat} : iN (.pm x v y)=true:=Eq.trans rfl rfl
theorem RB {xs:List D} : iN (.ip xs)=true:=Eq.trans rfl rfl
theorem RD {x v:Nat} : iN (.mp x v)=true:=Eq.trans rfl rfl
theorem N8 {ks:List Int} {vs:List D} : iN (.mpc ks vs)=true:=Eq.trans rfl rfl
theorem Rf {v ty:Nat} {cells:List D} {fz mp:Bool} : oY ⟨v,ty,cells,fz,true,mp⟩=⟨v,ty,cells,true,true,mp⟩:=by cases fz <;> rfl
theorem NR {d:Nat} : aB.hint d=none:=Eq.trans rfl rfl
theorem Jd {f:Nat} {l:Bool} {G:Option (D×Row)→List D→Option (RK×Option Row)} {d:Nat} : (Am.ext Γ f l G).hint d=Γ.hint d:=Eq.trans rfl rfl
theorem Fa {d i:Nat} : (Am.keep d Γ).hint i=Γ.hint i:=Eq.trans rfl rfl
theorem E9 {d y i:Nat} : (Am.sw d y Γ).hint i=if i=d then some y else Γ.hint i:=Eq.trans rfl rfl
theorem Jg {d y i:Nat} : (Am.sw d y Γ).own i=Γ.own i:=Eq.trans rfl rfl
theorem BW {d y i:Nat} : (Am.sw d y Γ).lends i=Γ.lends i:=Eq.trans rfl rfl
theorem Jh {d y i:Nat} {lent:Option (D×Row)} {X5:List D} : (Am.sw d y Γ).sem i lent X5=Γ.sem i lent X5:=Eq.trans rfl rfl
theorem E2 {ks:List Int} {vs:List D} : fI (.mpc ks vs)=false:=Eq.trans rfl rfl
theorem Ei {ks:List Int} {vs:List D} : canon (.mpc ks vs) = .mpc ks vs:=Eq.trans rfl rfl
theorem AN {ks:List Int} {vs:List D} : fe (.mpc ks vs) = .mpc ks vs:=Eq.trans rfl rfl
end
structure K6 {α:Type} (E:jH α) (C:List D) (o:Nat) (l:List α):Prop where
 fit:o+l.length*E.size≤C.length
 eq:(C.drop o).take (l.length*E.size)=ab E l
theorem K6.split {α:Type} {E:jH α} {C:List D} {o:Nat} {l:List α} (F:K6 E C o l):C.drop o=ab E l++C.drop (o+l.length*E.size):=by
 rw [← List.drop_drop]
 conv=>lhs; rw [← List.take_append_drop (l.length*E.size) (C.drop o)]
 rw [F.eq]
theorem K6.idx {α:Type} {E:jH α} {C:List D} {o:Nat} {l:List α} {i:Int} {x:α} (F:K6 E C o l) (h:P.idx l i=some x):o+i.toNat*E.size+E.size≤C.length∧∃ rest,C.drop (o+i.toNat*E.size)=E.cells x++rest:=by
 have h1:=aA E h
 have h2:=F.fit
 refine ⟨by omega,ab E (l.drop (i.toNat+1))++C.drop (o+l.length*E.size),?_⟩
 rw [← List.drop_drop,F.split,List.drop_append_of_le_length (by rw [cW]; omega),aC E h,List.append_assoc]
theorem K6.tail {α:Type} {E:jH α} {C:List D} {o:Nat} {l m:List α} {a:Int} (F:K6 E C o l) (h:CN l a (l.length:Int)=some m):K6 E C (o+a.toNat*E.size) m:=by
 obtain ⟨h1,h2,h3,h4,h5⟩:=Vn E h
 have h6:=F.fit
 have h7:a.toNat*E.size+m.length*E.size=l.length*E.size:=by rw [← Nat.add_mul]; congr 1; omega
 refine ⟨by omega,?_⟩
 rw [← List.drop_drop,F.split,List.drop_append_of_le_length (by rw [cW]; omega),List.take_append_of_le_length (by rw [List.length_drop,cW]; omega),h5]
theorem W2:type_of% (And.intro @JW <| And.intro @J0 <| And.intro @JB <| And.intro @JE <| And.intro @NY <| And.intro @Uv <| And.intro @Uu <| And.intro @JY <| And.intro @Fg <| And.intro @J6 <| And.intro @J5 <| And.intro @J4 <| And.intro @KY <| And.intro @F9 <| And.intro @KX <| And.intro @Ug <| And.intro @Jz <| And.intro @R7 <| And.intro @FY <| And.intro @Uy <| And.intro @Ry <| @Uz):=And.intro @JW <| And.intro @J0 <| And.intro @JB <| And.intro @JE <| And.intro @NY <| And.intro @Uv <| And.intro @Uu <| And.intro @JY <| And.intro @Fg <| And.intro @J6 <| And.intro @J5 <| And.intro @J4 <| And.intro @KY <| And.intro @F9 <| And.intro @KX <| And.intro @Ug <| And.intro @Jz <| And.intro @R7 <| And.intro @FY <| And.intro @Uy <| And.intro @Ry <| @Uz
theorem W4:type_of% (And.intro @Ik <| And.intro @Nx <| And.intro @Ic <| And.intro @QG <| And.intro @Ns <| And.intro @QF <| And.intro @Nt <| And.intro @Il <| And.intro @Io <| And.intro @QH <| And.intro @N9 <| And.intro @RE <| And.intro @RB <| And.intro @RD <| And.intro @N8 <| And.intro @Rg <| And.intro @Re <| And.intro @Rf <| And.intro @NR <| And.intro @Jd <| And.intro @Fa <| And.intro @E9 <| And.intro @Jg <| And.intro @BW <| And.intro @Jh <| And.intro @Fv <| And.intro @Fu <| And.intro @E2 <| And.intro @Ei <| And.intro @AN <| And.intro @II <| @T7):=And.intro @Ik <| And.intro @Nx <| And.intro @Ic <| And.intro @QG <| And.intro @Ns <| And.intro @QF <| And.intro @Nt <| And.intro @Il <| And.intro @Io <| And.intro @QH <| And.intro @N9 <| And.intro @RE <| And.intro @RB <| And.intro @RD <| And.intro @N8 <| And.intro @Rg <| And.intro @Re <| And.intro @Rf <| And.intro @NR <| And.intro @Jd <| And.intro @Fa <| And.intro @E9 <| And.intro @Jg <| And.intro @BW <| And.intro @Jh <| And.intro @Fv <| And.intro @Fu <| And.intro @E2 <| And.intro @Ei <| And.intro @AN <| And.intro @II <| @T7
theorem W5:type_of% (And.intro @yz <| And.intro @yD <| And.intro @AX <| And.intro @A0 <| And.intro @ud <| And.intro @uh <| And.intro @AW <| And.intro @AZ <| And.intro @uP <| And.intro @w8 <| And.intro @rn <| And.intro @w7 <| And.intro @Qr <| And.intro @Nc <| @Qs):=And.intro @yz <| And.intro @yD <| And.intro @AX <| And.intro @A0 <| And.intro @ud <| And.intro @uh <| And.intro @AW <| And.intro @AZ <| And.intro @uP <| And.intro @w8 <| And.intro @rn <| And.intro @w7 <| And.intro @Qr <| And.intro @Nc <| @Qs
theorem W1:type_of% (And.intro @Jy <| And.intro @Rr <| And.intro @JA <| And.intro @R8 <| And.intro @CQ <| And.intro @E3 <| @Rb):=And.intro @Jy <| And.intro @Rr <| And.intro @JA <| And.intro @R8 <| And.intro @CQ <| And.intro @E3 <| @Rb
theorem vi:type_of% (And.intro @W2 <| And.intro @W4 <| And.intro @W1 <| @W5):=And.intro @W2 <| And.intro @W4 <| And.intro @W1 <| @W5
end Go.Proofs.YtpkahnkoecbndaaGreatDoor.Am
namespace Go.Proofs.YtpkahnkoecbndaaGreatDoor.Am
open Go.RowKit Go.Proofs.YtpkahnkoecbndaaGreatDoor.P
set_option linter.unusedSimpArgs false
set_option linter.unusedVariables false
def Qf (P:Program) (f:FuncId):Prop:=∀ (blk off cap:Nat) (zs:List Int) (w:World),Go.Sort.Holds (Value.int .i64) w blk off zs.toArray→blk<w.heap.size→zs.length<4611686018427387904 →
 Calls P f #[.slice (some ⟨blk,off,none⟩) zs.length cap] w fun e w'=>e = .returned (.tuple #[])∧∃ n os,w'=Go.Sort.grow (Go.Sort.putRow (Value.int .i64) (Go.Sort.ahead w n) blk off (gn zs).toArray) os
theorem iV (k:IntKind) : ∀ (l:List Int) (j:Nat),(ab (eI k) l)[j]? = l[j]?.map fun n => .int k n
 | [],j=>by simp [ab]
 | x::l,0=>by simp [ab,eI]
 | x::l,j+1=>by
  have:=iV k l j
  simp only [ab,vU,List.cons_append,List.nil_append,List.getElem?_cons_succ]
  exact this
theorem cc (k:IntKind) (l:List Int):(ab (eI k) l).length=l.length:=by rw [cW]; show l.length*1=_; omega
theorem sO {w:World} {b off:Nat} {d:List Int} {cs:Array Value} {ty:Nat} {fr:Nat×Nat} (h:w.heap[b]? = some (.cells cs ty fr)):(Go.Sort.putRow (Value.int .i64) w b off d.toArray).heap[b]? = some (.cells (Go.Sort.putCells (Value.int .i64) off d.toArray cs) ty fr):=by
 simp [Go.Sort.putRow,Go.Sort.mapBlock,Array.getElem?_modify,h,Go.Sort.onCells]
theorem kF {w:World} {b c off:Nat} {d:List Int} (h:c≠b):(Go.Sort.putRow (Value.int .i64) w b off d.toArray).heap[c]? = w.heap[c]?:=by
 simp [Go.Sort.putRow,Go.Sort.mapBlock,Array.getElem?_modify,Ne.symm h]
theorem qp {off:Nat} {d:List Int} {cs:Array Value} {k:Nat} (hk:k<cs.size):(Go.Sort.putCells (Value.int .i64) off d.toArray cs).getD k undef=if off≤k∧k<off+d.length then .int .i64 (d.getD (k - off) 0) else cs.getD k undef:=by
 have h1:(Go.Sort.putCells (Value.int .i64) off d.toArray cs)[k]? = some (if off≤k∧k<off+d.length then .int .i64 (d.getD (k - off) 0) else cs[k]):=by
  simp only [Go.Sort.putCells,Array.getElem?_mapIdx,Array.getElem?_eq_getElem hk,Option.map_some,List.size_toArray]
  congr 1
  split
  ·rename_i hc
   congr 1
   have:k - off<d.length:=by omega
   simp [List.getD,this]
  ·rfl
 rw [Array.getD_eq_getD_getElem?,h1]
 simp [Array.getD_eq_getD_getElem?,hk]
theorem TN {P:Program} {f:FuncId} {fn:Func} {ty:Nat} {F small:List Int→Option (List Int×Unit)} (hf:P.funcs[f]? = some fn) (hc:(fn.name == "runtime.NumGoroutine")=false∧fn.body.isNone=false)
  (hF : ∀ l,F l=if l.length<4611686018427387904 then some (gn l,()) else none) (hs:bW P f (P5 ty (eI .i64) S2 (fun l (_:Unit)=>small l) (fun _:Unit => .clean (.tup [])))) (h0:small []=some ([],())) (hS:Qf P f) :
  bW P f (P5 ty (eI .i64) S2 (fun l (_:Unit)=>F l) (fun _:Unit => .clean (.tup []))) where
 callable:=⟨fn,hf,hc⟩
 calls lent X5 rk out hg:=by
  obtain ⟨pre,l,post,a,l',r,rfl,rfl,hr,rfl,rfl⟩:=J2 hg
  rw [hF] at hr
  split at hr
  ·rename_i hlen
   cases hr
   by_cases hl:l=[]
   ·subst hl
    rw [yg]
    exact hs.calls _ _ _ _ (by rw [Cb]; simp [h0])
   ·intro w M go u0 vs hM hgoM hz hmp hrow hlv hargs
    have hpos:0<l.length:=List.length_pos_iff.2 hl
    have hvs:vs = #[]:=by
     have:=hargs.1
     simpa [S2] using this
    subst hvs
    cases go with
    | none =>
     have hce:pre++(ab (eI .i64) l++post)=[]:=hrow
     have:=congrArg List.length hce
     rw [List.length_append,List.length_append,cc,List.length_nil] at this
     omega
    | some g =>
     obtain ⟨cs,h1,h2,h3⟩:=hrow
     simp only [List.length_append,cc] at h2
     have hcell : ∀ j,j<l.length→cs.getD (g.2+(pre.length+j)) undef = .int .i64 (l.getD j 0):=by
      intro j hj
      have hd:(pre++(ab (eI .i64) l++post))[pre.length+j]? = some (.int .i64 (l.getD j 0)):=by
       rw [List.getElem?_append_right (by omega),Nat.add_sub_cancel_left,List.getElem?_append_left (by rw [cc]; exact hj),iV]
       simp [List.getD,hj]
      obtain ⟨_,hp⟩:=h3 _ _ hd
      cases hu:cs.getD (g.2+(pre.length+j)) undef <;> rw [hu] at hp <;> cases hp
      rfl
     rcases hlv.2 ⟨0,0,[],false,false,false⟩ rfl rfl with ⟨g',o',c,N,t,k0,k1,k2,k3,k4,k5⟩ | ⟨k0,_⟩
     ·cases k0
      obtain ⟨rfl,k6⟩:=k2 (.inl (by omega))
      subst k1
      have hlt:g.1<w.heap.size:=(Array.getElem?_eq_some_iff.1 h1).1
      have hH:Go.Sort.Holds (Value.int .i64) w g.1 (g.2+pre.length) l.toArray:=by
       intro j hj
       simp only [List.size_toArray] at hj
       refine ⟨?_,by simp [World.frozen?,h1]⟩
       have:=bC h1 (j:=g.2+pre.length+j) (by omega)
       rw [this,Nat.add_assoc,hcell j hj]
       simp [List.getD,hj]
      refine (hS g.1 (g.2+pre.length) c l w hH hlt hlen).mono fun e w' ⟨he,n,os,hw⟩ => ?_
      subst hw
      refine ⟨.tuple #[],he,?_,?_,?_⟩
      ·refine ⟨rfl,rfl,rfl,by simp [Go.Sort.ahead],fun k hk hn => ?_⟩
       have hkg:k≠g.1:=fun e=>hn ⟨g,rfl,e⟩
       rw [Go.Sort.heap_grow_old _ _ (by simpa [Go.Sort.ahead] using hk),kF hkg]
       rfl
      ·have hnew:(Go.Sort.grow (Go.Sort.putRow (Value.int .i64) (Go.Sort.ahead w n) g.1 (g.2+pre.length) (gn l).toArray) os).heap[g.1]? = some (.cells (Go.Sort.putCells (Value.int .i64) (g.2+pre.length) (gn l).toArray cs) ty (0,0)):=by
        rw [Go.Sort.heap_grow_old _ _ (by simpa [Go.Sort.ahead] using hlt)]
        exact sO h1
       have hsz:(Go.Sort.putCells (Value.int .i64) (g.2+pre.length) (gn l).toArray cs).size=cs.size:=by simp [Go.Sort.putCells]
       refine ⟨rfl,rfl,rfl,fun g' hg' => ?_,?_⟩
       ·cases hg'
        simp [World.shape?,hnew,h1,hsz]
       ·refine ⟨_,hnew,?_,fun j d hj => ?_⟩
        ·simp only [List.length_append,cc,fA,hsz]; exact h2
        ·have hjl:j<pre.length+(l.length+post.length):=by
          have:=(List.getElem?_eq_some_iff.1 hj).1
          simpa [cc,fA] using this
         have hrest : ∀ {d:D} {u:Value},RP w (fun b=>M b∨l8 (some g) b) d u→RP (Go.Sort.grow (Go.Sort.putRow (Value.int .i64) (Go.Sort.ahead w n) g.1 (g.2+pre.length) (gn l).toArray) os) (fun b=>M b∨l8 (some g) b) d u:=by
          intro d u hu
          refine hu.keep fun b q1 q2=>⟨by simp [Go.Sort.ahead]; omega,q2,?_⟩
          have hbg:b≠g.1:=fun e=>q2 (.inr ⟨g,rfl,e⟩)
          rw [Go.Sort.heap_grow_old _ _ (by simpa [Go.Sort.ahead] using q1),kF hbg]
          rfl
         rw [qp (by omega),fA]
         by_cases hin:pre.length≤j∧j<pre.length+l.length
         ·rw [if_pos (by omega)]
          rw [List.getElem?_append_right (by omega),List.getElem?_append_left (by rw [cc,fA]; omega),iV,Option.map_eq_some_iff] at hj
          obtain ⟨z,hz,rfl⟩:=hj
          have e1:g.2+j - (g.2+pre.length)=j - pre.length:=by omega
          rw [e1]
          have e2:(gn l).getD (j - pre.length) 0=z:=by simp [List.getD,hz]
          rw [e2]
          exact ⟨rfl,.int _ _⟩
         ·rw [if_neg (by omega)]
          have hj':(pre++(ab (eI .i64) l++post))[j]? = some d:=by
           by_cases hlo:j<pre.length
           ·rw [List.getElem?_append_left hlo] at hj ⊢
            exact hj
           ·rw [List.getElem?_append_right (by omega),List.getElem?_append_right (by rw [cc,fA]; omega),cc,fA] at hj
            rw [List.getElem?_append_right (by omega),List.getElem?_append_right (by rw [cc]; omega),cc]
            exact hj
          exact ⟨(h3 j d hj').1,hrest (h3 j d hj').2⟩
      ·exact .tup [] [] rfl (fun j x hj=>by simp at hj)
     ·cases k0
  ·cases hr
end Go.Proofs.YtpkahnkoecbndaaGreatDoor.Am
namespace Go.Proofs.YtpkahnkoecbndaaGreatDoor.P
open Go.RowKit
set_option linter.unusedSimpArgs false
set_option linter.unusedVariables false
theorem wrap64 {x:Int} (h1 : -9223372036854775808≤x) (h2:x<9223372036854775808):IntKind.i64.wrap x=x:=by
 have key:IntKind.i64.wrap x=if x % 18446744073709551616≥9223372036854775808 then x % 18446744073709551616 - 18446744073709551616 else x % 18446744073709551616:=by
  unfold IntKind.wrap
  by_cases h:x % 18446744073709551616≥9223372036854775808
  ·rw [if_pos h]; exact if_pos (by simpa [IntKind.bits,IntKind.signed] using h)
  ·rw [if_neg h]; exact if_neg (by simpa [IntKind.bits,IntKind.signed] using h)
 rw [key]
 split <;> omega
theorem Nj (b:ByteArray) : ∀ (n i:Nat) (r:List UInt8),b.size - i=n→ByteArray.toList.loop b i r=r.reverse++b.data.toList.drop i
 | 0,i,r,h=>by
  rw [ByteArray.toList.loop]
  have hb:b.data.toList.length=b.size:=Array.length_toList
  rw [if_neg (by omega),List.drop_eq_nil_of_le (by omega),List.append_nil]
 | n+1,i,r,h=>by
  rw [ByteArray.toList.loop]
  have hi:i<b.size:=by omega
  have hb:i<b.data.toList.length:=by rw [Array.length_toList]; exact hi
  rw [if_pos hi,Nj b n (i+1) _ (by omega),List.drop_eq_getElem_cons hb]
  have hg:b.get! i=b.data.toList[i]:=by
   have:b.get! i=b.data[i]!:=rfl
   rw [this]
   have hd:i<b.data.size:=by simpa using hb
   rw [getElem!_pos b.data i hd]
   exact (Array.getElem_toList hd).symm
  rw [hg]
  simp
theorem D5 (b:ByteArray):b.toList=b.data.toList:=by
 unfold ByteArray.toList
 rw [Nj b (b.size - 0) 0 [] rfl]
 simp
theorem UT {a b:ByteArray} (h:a.toList=b.toList):a=b:=by
 rw [D5,D5] at h
 cases a; cases b
 simp only [ByteArray.mk.injEq]
 exact Array.ext' h
theorem TS {a b:ByteArray} : (a.toList==b.toList)=decide (a=b):=by
 by_cases h:a=b
 ·subst h; simp
 ·have : ¬ a.toList=b.toList:=fun h'=>h (UT h')
  simp [h,this]
theorem US {a b:ByteArray} : (a==b)=decide (a=b):=by
 have e:(a==b)=(a.data==b.data):=by cases a; cases b; rfl
 rw [e]
 by_cases h:a=b
 ·subst h; simp
 ·have : ¬ a.data=b.data:=fun h'=>h (by cases a; cases b; simp only [ByteArray.mk.injEq]; exact h')
  simp [h,this]
theorem sy {α:Type} {l:List α} {i:Int} {x:α} (h0:0≤i) (h:l[i.toNat]? = some x):P.idx l i=some x:=by
 have:=(List.getElem?_eq_some_iff.1 h).1
 unfold P.idx
 rw [if_pos ⟨h0,by omega⟩,h]
theorem Aa {α:Type} {l:List α} {i:Int} (h0:0≤i) (h:i<l.length):P.idx l i=some (l[i.toNat]'(by omega)):=sy h0 (List.getElem?_eq_getElem (by omega))
theorem cp {α:Type} {l:List α} {i:Nat} (h:i<l.length):P.idx l (i:Int)=some (l[i]):=sy (by omega) (by simp [h])
theorem Af {α:Type} {l:List α} {i:Nat} (h:i≤l.length):CN l 0 (i:Int)=some (l.take i):=by
 unfold CN
 rw [if_pos ⟨by omega,by omega,by omega⟩]
 simp
end Go.Proofs.YtpkahnkoecbndaaGreatDoor.P
namespace Go.Proofs.YtpkahnkoecbndaaGreatDoor.Am
open Go.RowKit Go.Deep Go.ChangeShapes Go.WideShapes
set_option linter.unusedSimpArgs false
set_option linter.unusedVariables false
def zA (T:Nat→Option Ty):Nat→Nat→List D→Prop
 | 0,_,_=>False
 | n+1,t,xs =>
  match T t with
  | none=>False
  | some τ=>xs.length=τ.size ∧
   match τ.ds with
   | .int k=>∃ i,xs=[.int k i]∧(Lit.int k i).wf=true
   | .bool=>∃ b,xs=[.bool b]
   | .str=>∃ s:ByteArray,xs=[.str s]∧s.size≤140737488351232
   | .slice e=>∃ len ys φ,xs=[.sl false false len ys]∧len*φ.bytes≤140737488351232∧T e=some φ∧ys.length=len*φ.size∧∀ i,i<len→zA T n e ((ys.drop (i*φ.size)).take φ.size)
   | .struct fs=>∀ f∈fs,∃ φ,T f.1=some φ∧zA T n f.1 ((xs.drop f.2).take φ.size)
   | .arr m e=>∃ φ,T e=some φ∧∀ i,i<m→zA T n e ((xs.drop (i*φ.size)).take φ.size)
   | .map _ _=>False
   | .other=>False
def yY (T:Nat→Option Ty):Nat→List (Nat×Nat)→Nat→Bool
 | o,[],z=>o==z
 | o,(ft,off)::fs,z=>off==o&&match T ft with | some φ=>yY T (o+φ.size) fs z | none=>false
def PG (T:Nat→Option Ty):Nat→Nat→Bool
 | 0,_=>false
 | n+1,t =>
  match T t with
  | none=>false
  | some τ =>
   match τ.ds with
   | .int _ | .bool | .str=>τ.size==1
   | .slice e=>τ.size==1&&PG T n e&&(match T e with | some φ=>decide (0<φ.size) | none=>false)
   | .struct fs=>yY T 0 fs τ.size&&fs.all fun f=>PG T n f.1
   | .arr m e=>PG T n e&&(match T e with | some φ=>τ.size==m*φ.size | none=>false)
   | .map _ _=>false
   | .other=>false
def kY (w:World) (M:Nat→Prop) (xs:List D) (cs:List Value):Prop:=xs.length=cs.length∧∀ (j:Nat) (x:D),xs[j]? = some x→aZ x=true∧∃ v,cs[j]? = some v∧RP w M x v
theorem kY.append {w:World} {M:Nat→Prop} {xs ys:List D} {cs ds:List Value} (h:kY w M xs cs) (k:kY w M ys ds):kY w M (xs++ys) (cs++ds):=by
 refine ⟨by simp [h.1,k.1],fun j x hj => ?_⟩
 rw [List.getElem?_append] at hj ⊢
 rw [← h.1]
 split at hj
 ·rename_i hlt; rw [if_pos hlt]; exact h.2 j x hj
 ·rename_i hlt; rw [if_neg hlt]; exact k.2 _ x hj
theorem Bt {α:Type} (s:Nat) : ∀ (ls:List (List α)),(∀ l∈ls,l.length=s)→∀ (i:Nat) (l:List α),ls[i]? = some l→(ls.flatten.drop (i*s)).take s=l
 | [],_,i,l,h=>by simp at h
 | a::ls,hl,0,l,h=>by
  simp only [List.getElem?_cons_zero,Option.some.injEq] at h
  subst h
  have:a.length=s:=hl a (by simp)
  simp [this]
 | a::ls,hl,i+1,l,h=>by
  have ha:a.length=s:=hl a (by simp)
  rw [List.flatten_cons,List.drop_append,List.drop_eq_nil_of_le (by rw [ha,Nat.succ_mul]; omega),List.nil_append,ha,Nat.succ_mul,Nat.add_sub_cancel]
  exact Bt s ls (fun x hx=>hl x (List.mem_cons_of_mem _ hx)) i l h
theorem IU {α:Type} (s:Nat) : ∀ (ls:List (List α)),(∀ l∈ls,l.length=s)→ls.flatten.length=ls.length*s
 | [],_=>by simp
 | a::ls,hl=>by
  rw [List.flatten_cons,List.length_append,IU s ls (fun x hx=>hl x (List.mem_cons_of_mem _ hx)),hl a (by simp),List.length_cons,Nat.succ_mul]
  omega
section
variable {H:Type} {enc:TypeId×Value→H} {P:Program} {w:World} {base:Nat} {spare:Nat→Bool} {held:Bool} {T:Nat→Option Ty}
theorem dr.bytesOf {P:Program} {t:Nat} {τ:Ty} (h:dr P t τ):P.bytesOf t=τ.bytes:=by
 have:=h.info
 unfold Program.bytesOf
 cases hi:P.info? t with
 | none=>rw [hi] at this; simp at this
 | some i=>rw [hi] at this; simp only [Option.map_some,Option.some.injEq,Prod.mk.injEq] at this; simp [this.2.1]
def Reach (P:Program) (t:Nat) (d:DataW H):Prop:=∀ k∈d.weights P t,k≤140737488351232
theorem xZ {e:TypeId} : ∀ (l:List (DataW H)) (j:Nat) (d:DataW H),l[j]? = some d→∀ k∈d.weights P e,k∈DataW.weightsAll P e l
 | x::l,0,d,h,k,hk=>by
  simp only [List.getElem?_cons_zero,Option.some.injEq] at h
  subst h
  simp only [DataW.weightsAll,List.mem_append]
  exact .inl hk
 | x::l,j+1,d,h,k,hk=>by
  simp only [DataW.weightsAll,List.mem_append]
  exact .inr (xZ l j d (by simpa using h) k hk)
 | [],j,d,h,k,hk=>by simp at h
theorem dr.cells {P:Program} {t:Nat} {τ:Ty} (h:dr P t τ):P.cellsOf t=τ.size:=by
 have:=h.info
 unfold Program.cellsOf
 cases hi:P.info? t with
 | none=>rw [hi] at this; simp at this
 | some i=>rw [hi] at this; simp only [Option.map_some,Option.some.injEq,Prod.mk.injEq] at this; simp [this.1]
theorem NU {T:Nat→Option Ty} {w:World} {M:Nat→Prop} {cs:List Value} : ∀ (fs:List (Nat×Nat)) (o z:Nat) (f:Nat×Nat→List D),yY T o fs z=true→cs.length=z →
  (∀ p∈fs,∃ φ,T p.1=some φ∧kY w M (f p) ((cs.drop p.2).take φ.size))→o≤z→∃ xs,kY w M xs (cs.drop o)∧∀ p∈fs,∃ φ,T p.1=some φ∧o≤p.2∧(xs.drop (p.2 - o)).take φ.size=f p
 | [],o,z,f,hl,hc,_,_=>by
  simp only [yY,beq_iff_eq] at hl
  refine ⟨[],⟨by rw [List.length_drop,hc,hl]; simp,fun j x hj=>by simp at hj⟩,fun p hp=>by simp at hp⟩
 | (ft,off)::fs,o,z,f,hl,hc,hp,hoz=>by
  simp only [yY,Bool.and_eq_true,beq_iff_eq] at hl
  obtain ⟨rfl,hl⟩:=hl
  obtain ⟨φ,hφ,hR⟩:=hp (ft,off) (by simp)
  simp only [hφ] at hl
  have hz:off+φ.size≤z:=by
   have : ∀ (fs:List (Nat×Nat)) (o:Nat),yY T o fs z=true→o≤z:=by
    intro fs
    induction fs with
    | nil=>intro o h; simp only [yY,beq_iff_eq] at h; omega
    | cons p fs ih =>
     intro o h
     obtain ⟨a,b⟩:=p
     simp only [yY,Bool.and_eq_true] at h
     have h2:=h.2
     split at h2
     ·have:=ih _ h2; omega
     ·cases h2
   exact this fs _ hl
  obtain ⟨xs,hx,hxs⟩:=NU fs (off+φ.size) z f hl hc (fun p h=>hp p (List.mem_cons_of_mem _ h)) hz
  have hfl:(f (ft,off)).length=φ.size:=by
   rw [hR.1,List.length_take,List.length_drop,hc]; omega
  refine ⟨f (ft,off)++xs,?_,fun p h => ?_⟩
  ·have:=hR.append hx
   rw [← List.drop_drop,List.take_append_drop] at this
   exact this
  ·rcases List.mem_cons.1 h with rfl | h
   ·exact ⟨φ,hφ,Nat.le_refl _,by simp only [Nat.sub_self,List.drop_zero]; rw [List.take_append_of_le_length (by omega),List.take_of_length_le (by omega)]⟩
   ·obtain ⟨ψ,h1,h2,h3⟩:=hxs p h
    refine ⟨ψ,h1,by omega,?_⟩
    rw [List.drop_append,List.drop_eq_nil_of_le (by omega),List.nil_append,hfl]
    have:p.2 - off - φ.size=p.2 - (off+φ.size):=by omega
    rw [this,h3]
theorem kY.one {w:World} {M:Nat→Prop} {x:D} {v:Value} (hp:aZ x=true) (h:RP w M x v):kY w M [x] [v]:=by
 refine ⟨rfl,fun j y hj => ?_⟩
 match j,hj with
 | 0,hj=>simp only [List.getElem?_cons_zero,Option.some.injEq] at hj; subst hj; exact ⟨hp,v,rfl,h⟩
 | j+1,hj=>simp at hj
theorem kY.flat {w:World} {M:Nat→Prop} {cs:List Value} {s:Nat} : ∀ (ls:List (List D)) (o:Nat),(∀ (i:Nat) l,ls[i]? = some l→kY w M l ((cs.drop (o+i*s)).take s))→(∀ l∈ls,l.length=s)→kY w M ls.flatten ((cs.drop o).take (ls.length*s))
 | [],o,_,_=>⟨by simp,fun j x hj=>by simp at hj⟩
 | a::ls,o,h,hl=>by
  have h0:=h 0 a rfl
  have h1:=kY.flat ls (o+s) (fun i l hi=>by
   have:=h (i+1) l (by simpa using hi)
   rw [Nat.succ_mul] at this
   rw [show o+s+i*s=o+(i*s+s) by omega]
   exact this) (fun l hx=>hl l (List.mem_cons_of_mem _ hx))
  have:=h0.append h1
  rw [Nat.zero_mul,Nat.add_zero] at this
  rw [List.flatten_cons,List.length_cons,Nat.succ_mul,Nat.add_comm (ls.length*s) s,List.take_add,List.drop_drop]
  exact this
theorem UW (hT:kT P T) {M:Nat→Prop} (hM : ∀ b,base≤b→b<w.heap.size→¬ M b) : ∀ (n t fuel:Nat) (cs:List Value) (x:DataW H×List MemPlace),PG T n t=true→DataW.trod enc P w base spare held fuel t cs=some x→Reach P t x.1→∃ xs,zA T n t xs∧kY w M xs cs:=by
 intro n
 induction n with
 | zero=>intro t fuel cs x h; cases h
 | succ n ih =>
  intro t fuel cs x hok h hw
  unfold PG at hok
  unfold zA
  cases hτ:T t with
  | none=>rw [hτ] at hok; cases hok
  | some τ =>
   rw [hτ] at hok
   simp only at hok ⊢
   obtain ⟨d,hd,hc⟩:=under hT hτ
   cases hds:τ.ds with
   | int k =>
    rw [hds] at hok hc
    simp only [beq_iff_eq] at hok
    have hd':=vN hc
    subst hd'
    obtain ⟨i,rfl,_,hw⟩:=DataW.trod_int hd h
    exact ⟨[.int k i],⟨by rw [hok]; rfl,i,rfl,hw⟩,.one rfl (.int k i)⟩
   | bool =>
    rw [hds] at hok hc
    simp only [beq_iff_eq] at hok
    have hd':=tr hc
    subst hd'
    obtain ⟨b,rfl,_⟩:=DataW.trod_bool hd h
    exact ⟨[.bool b],⟨by rw [hok]; rfl,b,rfl⟩,.one rfl (.bool b)⟩
   | str =>
    rw [hds] at hok hc
    simp only [beq_iff_eq] at hok
    have hd':=oV hc
    subst hd'
    obtain ⟨s,rfl,rfl,hs⟩:=DataW.trod_string hd h
    have hs':s.size≤140737488351232:=by
     have:=hw s.data.toList.length (by simp [DataW.weights])
     simpa using this
    exact ⟨[.str s],⟨by rw [hok]; rfl,s,rfl,hs'⟩,.one rfl (.str s)⟩
   | map _ _=>rw [hds] at hok; cases hok
   | other=>rw [hds] at hok; cases hok
   | struct fs =>
    rw [hds] at hok hc
    simp only [Bool.and_eq_true,List.all_eq_true] at hok
    obtain ⟨F,rfl,hF⟩:=gO hc
    obtain ⟨ys,m,_,rfl,hlen,hyl,hf⟩:=DataW.trod_struct hd h
    have hwy : ∀ (i:Nat) (f:Field) y,F[i]? = some f→ys[i]? = some y→Reach P f.type y.1:=by
     intro i f y hfi hyi k hk
     refine hw k ?_
     simp only [DataW.weights,hd]
     exact DataW.weights_mem_each (j:=i) (t:=f.type) (d:=y.1) (by rw [List.getElem?_map,Array.getElem?_toList,hfi]; rfl) (by simp [hyi]) k hk
    rw [(hT t τ hτ).cells] at hlen
    have hone : ∀ p:Nat×Nat,∃ zs,p∈fs→∃ φ,T p.1=some φ∧zA T n p.1 zs∧kY w M zs ((cs.drop p.2).take φ.size):=by
     intro p
     by_cases hp:p∈fs
     ·have hokp:=hok.2 p hp
      rw [← hF] at hp
      obtain ⟨f,hfm,rfl⟩:=List.mem_map.1 hp
      obtain ⟨i,hi⟩:=List.mem_iff_getElem?.1 hfm
      have h1:=hf i f (by simpa using hi)
      simp only at hokp ⊢
      cases hφ:T f.type with
      | none=>cases n with
       | zero=>cases hokp
       | succ n=>simp only [PG,hφ] at hokp; cases hokp
      | some φ =>
       rw [(hT _ φ hφ).cells] at h1
       have hi':i<ys.length:=by
        have:=(List.getElem?_eq_some_iff.1 hi).1
        simp only [Array.length_toList] at this
        omega
       rw [List.getElem?_eq_getElem hi'] at h1
       obtain ⟨zs,hz1,hz2⟩:=ih _ _ _ _ hokp h1 (hwy i f _ (by simpa using hi) (List.getElem?_eq_getElem hi'))
       exact ⟨zs,fun _=>⟨φ,rfl,hz1,hz2⟩⟩
     ·exact ⟨[],fun h=>(hp h).elim⟩
    obtain ⟨f,hf2⟩:=Classical.axiomOfChoice hone
    obtain ⟨xs,hx,hparts⟩:=NU fs 0 τ.size f hok.1 hlen (fun p hp=>by obtain ⟨φ,a,_,b⟩:=hf2 p hp; exact ⟨φ,a,b⟩) (Nat.zero_le _)
    rw [List.drop_zero] at hx
    refine ⟨xs,⟨by rw [hx.1,hlen],fun p hp => ?_⟩,hx⟩
    obtain ⟨φ,h1,_,h3⟩:=hparts p hp
    obtain ⟨ψ,g1,g2,_⟩:=hf2 p hp
    rw [h1] at g1
    cases g1
    rw [Nat.sub_zero] at h3
    exact ⟨φ,h1,by rw [h3]; exact g2⟩
   | arr m e =>
    rw [hds] at hok hc
    simp only [Bool.and_eq_true] at hok
    have hd':=vM hc
    subst hd'
    obtain ⟨ys,k,_,rfl,hlen,hyl,hf⟩:=DataW.trod_array hd h
    have hwy : ∀ (i:Nat) y,ys[i]? = some y→Reach P e y.1:=by
     intro i y hyi k hk
     refine hw k ?_
     simp only [DataW.weights,hd]
     exact xZ _ i y.1 (by simp [hyi]) k hk
    rw [(hT t τ hτ).cells] at hlen
    obtain ⟨hok1,hok2⟩:=hok
    split at hok2
    ·rename_i φ hφ
     simp only [beq_iff_eq] at hok2
     have hone : ∀ i:Nat,∃ zs,i<m→zA T n e zs∧kY w M zs ((cs.drop (i*φ.size)).take φ.size):=by
      intro i
      by_cases hi:i<m
      ·have h1:=hf i hi
       rw [(hT _ φ hφ).cells,List.getElem?_eq_getElem (by omega)] at h1
       obtain ⟨zs,hz1,hz2⟩:=ih _ _ _ _ hok1 h1 (hwy i _ (List.getElem?_eq_getElem (by omega)))
       exact ⟨zs,fun _=>⟨hz1,hz2⟩⟩
      ·exact ⟨[],fun h=>(hi h).elim⟩
     obtain ⟨f,hf2⟩:=Classical.axiomOfChoice hone
     have hls : ∀ l∈(List.range m).map f,l.length=φ.size:=by
      intro l hl
      obtain ⟨i,hi,rfl⟩:=List.mem_map.1 hl
      have hi:=List.mem_range.1 hi
      rw [(hf2 i hi).2.1,List.length_take,List.length_drop,hlen,hok2]
      have:(i+1)*φ.size≤m*φ.size:=Nat.mul_le_mul_right _ hi
      rw [Nat.succ_mul] at this
      omega
     have hget : ∀ (i:Nat) l,((List.range m).map f)[i]? = some l→i<m∧l=f i:=by
      intro i l hl
      rw [List.getElem?_map,Option.map_eq_some_iff] at hl
      obtain ⟨j,hj,rfl⟩:=hl
      obtain ⟨hj1,hj2⟩:=List.getElem?_eq_some_iff.1 hj
      simp only [List.length_range] at hj1
      simp only [List.getElem_range] at hj2
      exact ⟨hj1,by rw [hj2]⟩
     have hall:kY w M ((List.range m).map f).flatten ((cs.drop 0).take (((List.range m).map f).length*φ.size)):=by
      refine kY.flat _ 0 (fun i l hl => ?_) hls
      obtain ⟨hi,rfl⟩:=hget i l hl
      rw [Nat.zero_add]
      exact (hf2 i hi).2
     rw [List.length_map,List.length_range,List.drop_zero,List.take_of_length_le (by omega)] at hall
     refine ⟨_,⟨by rw [hall.1,hlen],φ,hφ,fun i hi => ?_⟩,hall⟩
     have hi':((List.range m).map f)[i]? = some (f i):=by simp [hi]
     rw [Bt φ.size _ hls i _ hi']
     exact (hf2 i hi).1
    ·cases hok2
   | slice e =>
    rw [hds] at hok hc
    simp only [Bool.and_eq_true,beq_iff_eq] at hok
    have hd':=fE hc
    subst hd'
    obtain ⟨⟨hone,hoke⟩,hpos⟩:=hok
    split at hpos
    ·rename_i φ hφ
     simp only [decide_eq_true_eq] at hpos
     rcases open_slice hd h with ⟨rfl,_⟩ | ⟨a,len,cap,m,k,D',Pl,rfl,hb,hl,hm,hmm,rfl,hi⟩
     ·refine ⟨[.sl false false 0 []],⟨by rw [hone]; rfl,0,[],φ,rfl,by omega,hφ,by simp,fun i hi=>by omega⟩,.one rfl ?_⟩
      exact .sl none 0 false false 0 [] (fun _=>undef) (Nat.le_refl _) (Nat.zero_le _) (fun h=>by cases h) (fun _=>⟨rfl,rfl⟩) (fun h=>by cases h) (fun h=>(h rfl).elim) (fun j x hj=>by simp at hj) (fun x hx=>by simp at hx)
     ·have hlm:len≤m:=by rw [hmm]; split <;> omega
      have hwl:len*φ.bytes≤140737488351232:=by
       have h1:=hw ((((List.range len).map D').length+((List.range (m - len)).map fun j=>D' (len+j)).length)*P.bytesOf e) (by simp [DataW.weights,hd])
       rw [(hT _ φ hφ).bytesOf] at h1
       simp only [List.length_map,List.length_range] at h1
       exact Nat.le_trans (Nat.mul_le_mul_right _ (by omega)) h1
      have hwy : ∀ i,i<len→Reach P e (D' i):=by
       intro i hi' k hk
       refine hw k ?_
       simp only [DataW.weights,hd,List.mem_cons,List.mem_append]
       exact .inr (.inl (xZ _ i (D' i) (by simp [hi']) k hk))
      have hone' : ∀ i:Nat,∃ zs,i<len→zA T n e zs∧zs.length=φ.size∧∀ (j:Nat) z,zs[j]? = some z→aZ z=true∧∃ v,w.cell? (a.add (i*φ.size+j))=some v∧RP w M z v:=by
       intro i
       by_cases hil:i<len
       ·obtain ⟨cs',hc1,hc2⟩:=hi i (by omega)
        rw [(hT _ φ hφ).cells] at hc1
        obtain ⟨_,g1,g2⟩:=World.cells?_some hc1
        obtain ⟨zs,hz1,hz2⟩:=ih _ _ _ _ hoke hc2 (hwy i hil)
        refine ⟨zs,fun _=>⟨hz1,by rw [hz2.1,g1],fun j z hj => ?_⟩⟩
        obtain ⟨p1,v,p2,p3⟩:=hz2.2 j z hj
        refine ⟨p1,v,?_,p3⟩
        have hj':j<φ.size:=by rw [← g1]; exact (List.getElem?_eq_some_iff.1 p2).1
        rw [← Go.Deep.add_add,g2 j hj',p2]
       ·exact ⟨[],fun h=>(hil h).elim⟩
      obtain ⟨f,hf2⟩:=Classical.axiomOfChoice hone'
      have hls : ∀ l∈(List.range len).map f,l.length=φ.size:=by
       intro l hl
       obtain ⟨i,hi,rfl⟩:=List.mem_map.1 hl
       exact (hf2 i (List.mem_range.1 hi)).2.1
      have hfl:((List.range len).map f).flatten.length=len*φ.size:=by rw [IU φ.size _ hls]; simp
      have hseg : ∀ i,i<len→(((List.range len).map f).flatten.drop (i*φ.size)).take φ.size=f i:=fun i hi=>Bt φ.size _ hls i (f i) (by simp [hi])
      have hat : ∀ (p:Nat) z,((List.range len).map f).flatten[p]? = some z→aZ z=true∧∃ v,w.cell? (a.add p)=some v∧RP w M z v:=by
       intro p z hp
       have hpl:=(List.getElem?_eq_some_iff.1 hp).1
       rw [hfl] at hpl
       have hq:p / φ.size<len:=Nat.div_lt_of_lt_mul (by rwa [Nat.mul_comm])
       have hr:p % φ.size<φ.size:=Nat.mod_lt _ hpos
       have he:p / φ.size*φ.size+p % φ.size=p:=Nat.div_add_mod' p φ.size
       have hz:(f (p / φ.size))[p % φ.size]? = some z:=by
        rw [← hseg _ hq,List.getElem?_take,if_pos hr,List.getElem?_drop,he]
        exact hp
       have:=(hf2 _ hq).2.2 _ z hz
       rw [he] at this
       exact this
      refine ⟨[.sl false false len ((List.range len).map f).flatten],⟨by rw [hone]; rfl,len,_,φ,rfl,hwl,hφ,hfl,fun i hi=>by rw [hseg i hi]; exact (hf2 i hi).1⟩,.one rfl ?_⟩
      refine .sl (some a) cap false false len _ (fun j=>(w.cell? (a.add j)).getD undef) hl hm (fun h=>by cases h) (fun h=>by cases h) (fun h=>by cases h) (fun hne => ?_) (fun j z hj => ?_) (fun z hz => ?_)
      ·have h0:0<((List.range len).map f).flatten.length:=List.length_pos_iff.2 hne
       obtain ⟨_,v,hv,_⟩:=hat 0 _ (List.getElem?_eq_getElem h0)
       obtain ⟨b,o,sp⟩:=a
       have hsp:sp=none:=by
        unfold World.cell? at hv
        split at hv
        ·split at hv
         ·cases hv
         ·rename_i h; simpa [Addr.add] using h
        ·cases hv
       subst hsp
       have hbs:b<w.heap.size:=by
        unfold World.cell? at hv
        split at hv
        ·rename_i hh; exact (Array.getElem?_eq_some_iff.1 hh).1
        ·cases hv
       refine ⟨b,o,rfl,hbs,hM b hb hbs,fun j hj => ?_⟩
       obtain ⟨_,v,hv,_⟩:=hat j _ (List.getElem?_eq_getElem hj)
       have ha:Addr.add ⟨b,o,none⟩ j=⟨b,o+j,none⟩:=by
        unfold Addr.add
        split
        ·rename_i h0; rw [h0]; rfl
        ·rfl
       have hv':w.cell? ⟨b,o+j,none⟩=some v:=by rw [← ha]; exact hv
       rw [hv']
       simp only [hv,Option.getD_some]
      ·obtain ⟨_,v,hv,hr⟩:=hat j z hj
       rw [hv]
       exact hr
      ·obtain ⟨j,hj⟩:=List.mem_iff_getElem?.1 hz
       exact (hat j z hj).1
    ·cases hpos
def py (T:Nat→Option Ty) (n t:Nat) (d:D):Prop :=
 match T t with
 | some τ=>if τ.ds.nN then ∃ xs,d = .agg xs∧zA T n t xs else zA T n t [d]
 | none=>False
theorem kY.agg {w:World} {M:Nat→Prop} {xs:List D} {cs:Array Value} (h:kY w M xs cs.toList):RP w M (.agg xs) (.agg cs):=by
 have:=RP.agg (w:=w) (M:=M) xs cs.toList h.1.symm (fun j x hj=>by
  obtain ⟨_,v,h1,h2⟩:=h.2 j x hj
  simp only [List.getD,h1,Option.getD_some]
  exact h2) (fun x hx=>by
  obtain ⟨j,hj⟩:=List.mem_iff_getElem?.1 hx
  exact (h.2 j x hj).1)
 simpa using this
theorem kY.single {w:World} {M:Nat→Prop} {xs:List D} {v:Value} (h:kY w M xs [v]) : ∃ x,xs=[x]∧RP w M x v:=by
 match xs,h with
 | [],h=>have:=h.1; simp at this
 | [x],h=>obtain ⟨_,u,h1,h2⟩:=h.2 0 x rfl; simp only [List.getElem?_cons_zero,Option.some.injEq] at h1; subst h1; exact ⟨x,rfl,h2⟩
 | x::y::xs,h=>have:=h.1; simp at this
theorem Tc (hT:kT P T) {M:Nat→Prop} (hM : ∀ b,base≤b→b<w.heap.size→¬ M b) {n t b0:Nat} {v:Value} {d:DataW H} {ps:List MemPlace} (hok:PG T n t=true) (hv:Value.okWide P w .any b0 t v) (h:DataW.Trod enc P w base spare held t v d ps) (hw:Reach P t d) :
  ∃ x,py T n t x∧RP w M x v:=by
 obtain ⟨fuel,h⟩:=h
 obtain ⟨xs,h1,h2⟩:=UW hT hM n t fuel _ _ hok h hw
 unfold py
 cases n with
 | zero=>cases hok
 | succ n =>
 cases hτ:T t with
 | none=>simp only [PG,hτ] at hok; cases hok
 | some τ =>
  simp only
  obtain ⟨d',hd,hc⟩:=under hT hτ
  cases hds:τ.ds with
  | int k =>
   rw [hds] at hc
   have hd':=vN hc
   subst hd'
   obtain ⟨i,rfl⟩:=okWide_int hd hv
   obtain ⟨x,rfl,hx⟩:=kY.single (v := .int k i) h2
   exact ⟨x,by simpa [Ds.nN] using h1,hx⟩
  | bool =>
   rw [hds] at hc
   have hd':=tr hc
   subst hd'
   obtain ⟨i,rfl⟩:=okWide_bool hd hv
   obtain ⟨x,rfl,hx⟩:=kY.single (v := .bool i) h2
   exact ⟨x,by simpa [Ds.nN] using h1,hx⟩
  | str =>
   rw [hds] at hc
   have hd':=oV hc
   subst hd'
   obtain ⟨i,rfl⟩:=okWide_string hd hv
   obtain ⟨x,rfl,hx⟩:=kY.single (v := .string i) h2
   exact ⟨x,by simpa [Ds.nN] using h1,hx⟩
  | slice e =>
   rw [hds] at hc
   have hd':=fE hc
   subst hd'
   obtain ⟨a,len,cap,rfl⟩:=okWide_slice hd hv
   obtain ⟨x,rfl,hx⟩:=kY.single (v := .slice a len cap) h2
   exact ⟨x,by simpa [Ds.nN] using h1,hx⟩
  | struct fs =>
   rw [hds] at hc
   obtain ⟨F,rfl,_⟩:=gO hc
   obtain ⟨cs,rfl,_⟩:=okWide_struct hd hv
   exact ⟨.agg xs,by simpa [Ds.nN] using h1,kY.agg h2⟩
  | arr m e =>
   rw [hds] at hc
   have hd':=vM hc
   subst hd'
   have : ∃ cs,v = .agg cs:=by
    unfold Value.okWide at hv
    rw [hd] at hv
    obtain ⟨cs,h,_⟩:=hv
    exact ⟨cs,h⟩
   obtain ⟨cs,rfl⟩:=this
   exact ⟨.agg xs,by simpa [Ds.nN] using h1,kY.agg h2⟩
  | map _ _=>simp only [PG,hτ,hds] at hok; cases hok
  | other=>simp only [PG,hτ,hds] at hok; cases hok
theorem D9 (hT:kT P T) {M:Nat→Prop} (hM : ∀ b,base≤b→b<w.heap.size→¬ M b) {n b0:Nat} : ∀ (ts:List TypeId) (vs:List Value) (ds:List (DataW H)) (ps:List MemPlace),DataW.TrodAll enc P w base spare held ts vs ds ps →
  (∀ (j:Nat) t v,ts[j]? = some t→vs[j]? = some v→Value.okWide P w .any b0 t v)→(∀ t∈ts,PG T n t=true)→(∀ k∈DataW.weightsEach P ts ds,k≤140737488351232) →
  ∃ ar:List D,ar.length=vs.length∧(∀ (j:Nat) x,ar[j]? = some x→∃ v,vs[j]? = some v∧RP w M x v)∧ar.length=ts.length∧∀ (j:Nat) t,ts[j]? = some t→∃ x,ar[j]? = some x∧py T n t x
 | [],[],[],ps,_,_,_,_=>⟨[],rfl,fun j x hj=>by simp at hj,rfl,fun j t hj=>by simp at hj⟩
 | t::ts,v::vs,d::ds,ps,h,hv,hok,hw=>by
  obtain ⟨p,q,h1,h2,_⟩:=h
  obtain ⟨x,hx1,hx2⟩:=Tc hT hM (hok t (by simp)) (hv 0 t v rfl rfl) h1 (fun k hk=>hw k (by simp only [DataW.weightsEach,List.mem_append]; exact .inl hk))
  obtain ⟨ar,g1,g2,g3,g4⟩:=D9 hT hM ts vs ds q h2 (fun j t' v' a b=>hv (j+1) t' v' (by simpa using a) (by simpa using b)) (fun t' ht=>hok t' (List.mem_cons_of_mem _ ht)) (fun k hk=>hw k (by simp only [DataW.weightsEach,List.mem_append]; exact .inr hk))
  refine ⟨x::ar,by simp [g1],fun j y hj => ?_,by simp [g3],fun j t' hj => ?_⟩
  ·cases j with
   | zero=>simp only [List.getElem?_cons_zero,Option.some.injEq] at hj; subst hj; exact ⟨v,rfl,hx2⟩
   | succ j=>simpa using g2 j y (by simpa using hj)
  ·cases j with
   | zero=>simp only [List.getElem?_cons_zero,Option.some.injEq] at hj; subst hj; exact ⟨x,rfl,hx1⟩
   | succ j=>simpa using g4 j t' (by simpa using hj)
 | [],[],_::_,_,h,_,_,_=>h.elim
 | [],_::_,_,_,h,_,_,_=>h.elim
 | _::_,[],_,_,h,_,_,_=>h.elim
 | _::_,_::_,[],_,h,_,_,_=>h.elim
end
end Go.Proofs.YtpkahnkoecbndaaGreatDoor.Am
namespace Go.Proofs.YtpkahnkoecbndaaGreatDoor.Am
open Go.RowKit Go.Deep Go.ChangeShapes Go.WideShapes Go.ChangeAt
set_option linter.unusedSimpArgs false
set_option linter.unusedVariables false
section
variable {H:Type} {enc:TypeId×Value→H} {P:Program}
theorem DR {f:Func} {s:ChangeSpec} {apart fresh handsOn again:Bool} {W W':World} {args:Array Value} {v:Value} {ds gs:List (DataW H)} {before pa pv:List MemPlace}
  (hW:DataW.Whole enc P f.params.toList s.vars apart W args.toList ds gs before)
  (hres : ∀ (b:Nat) (sp:Nat→Bool) (hd:Bool),DataW.TrodAll enc P W' b sp hd f.resultTypes.toList (v.resultList f.resultTypes.size) (s.fn H (ds++gs)).results [])
  (hargs : ∀ sp:Nat→Bool,(∀ p∈before,sp p.block=true)→DataW.TrodAll enc P W' 0 sp true f.params.toList args.toList (s.fn H (ds++gs)).args pa)
  (hvars : ∀ sp:Nat→Bool,(∀ p∈before,sp p.block=true)→DataW.TrodVars enc P W' sp s.vars (s.fn H (ds++gs)).vars pv)
  (hps:before=pa++pv) (hb:Below W.heap.size W W')
  (hok : ∀ (j:Nat) (t:TypeId) (r:Value),f.resultTypes[j]? = some t→(v.resultList f.resultTypes.size)[j]? = some r→Value.okWide P W' .any 0 t r) :
  s.post enc P f apart fresh handsOn again W args v W':=by
 have hlt : ∀ p∈before,p.block<W.heap.size:=fun p hp=>hW.lt p hp
 have hold : ∀ p∈before,(fun b=>decide (b<W.heap.size)) p.block=true:=fun p hp=>by simpa using hlt p hp
 refine ⟨ds,gs,before,[],pa,pv,hW,hres _ _ _,hargs _ hold,hvars _ hold,World.keptBut_mono (fun p hp=>⟨hp,?_⟩) (hb.frame (·∈before)),fun _ => ?_⟩
 ·rw [hps,List.mem_append] at hp
  exact Or.inr hp
 ·obtain ⟨_,_,_,_,_,hz,hn⟩:=hW
  refine ⟨hok,_,_,([]++pa)++pv,⟨[]++pa,pv,trodAll_append (hargs _ (fun _ _=>rfl)) (hres _ _ _),hvars _ (fun _ _=>rfl),rfl,?_,?_⟩,?_⟩
  ·intro b off hp
   have hin:MemPlace.cell b off∈before:=by rw [hps]; simpa using hp
   rw [hb.frozen (hlt _ hin)]
   exact hz b off hin
  ·intro ha
   have:=hn ha
   rw [hps] at this
   simpa using this
  ·intro p hp _
   rw [hps]
   simpa using hp
theorem uU (hl:laidOutB P=true) {W W':World} {sp':Nat→Bool} : ∀ {ts:List TypeId} {vs:List Value} {ds:List (DataW H)} {ps:List MemPlace},(∀ t∈ts,P.readableRec t=true∧t<P.types.size)→DataW.TrodAll enc P W 0 (fun _=>true) true ts vs ds ps →
  (∀ p∈ps,W.sameAt W' p)→(∀ p∈ps,sp' p.block=true)→DataW.TrodAll enc P W' 0 sp' true ts vs ds ps
 | [],[],[],_,_,h,_,_=>h
 | t::ts,v::vs,d::ds,_,hr,⟨p,q,h1,h2,e⟩,hs,hp=>by
  subst e
  have ht:=hr t (by simp)
  exact ⟨p,q,WideElems.Trod_stays hl ht.1 ht.2 h1 (fun x hx=>hs x (List.mem_append_left _ hx)) (fun x hx=>hp x (List.mem_append_left _ hx)),
   uU hl (fun t ht=>hr t (List.mem_cons_of_mem _ ht)) h2 (fun x hx=>hs x (List.mem_append_right _ hx)) (fun x hx=>hp x (List.mem_append_right _ hx)),rfl⟩
end
theorem RR {H:Type} {enc:TypeId×Value→H} {C:Checked} {T:Nat→Option Ty} {f:FuncId} {fn:Func} {s:ChangeSpec} {apart fresh handsOn again:Bool} {tb n:Nat} (hT:kT C.prog T)
  (hl:laidOutB C.prog=true) (hr:(fn.params.toList.all fun t=>C.prog.readableRec t&&decide (t<C.prog.types.size)&&PG T n t)=true)
  (hres:fn.resultTypes = #[tb]) (htb:C.prog.underlying tb=some .bool) (hv:s.vars=[])
  (hs : ∀ ds:List (DataW H),ds.length=fn.params.toList.length→(s.fn H ds).results=[.lit (.bool true)]∧(s.fn H ds).args=ds∧(s.fn H ds).vars=[])
  (law : ∀ ar:List D,ar.length=fn.params.toList.length→(∀ (j:Nat) t,fn.params.toList[j]? = some t→∃ x,ar[j]? = some x∧py T n t x)→K4 C.prog f ar (.bool true))
  {W:World} {base:Nat} {args:Array Value} {ds gs:List (DataW H)} {before:List MemPlace}
  (hval : ∀ (j:Nat) t v,fn.params[j]? = some t→args[j]? = some v→Value.okWide C.prog W .any base t v) (hW:DataW.Whole enc C.prog fn.params.toList s.vars apart W args.toList ds gs before)
  (hsz:(DataW.weightsEach C.prog (fn.params.toList++s.plain.varTypes C.prog) (ds++gs)).all (·≤reachBytes)=true) (hTab:Gd W (fun _=>False)) :
  Calls C.prog f args W fun e W'=>∃ v,e = .returned v∧s.post enc C.prog fn apart fresh handsOn again W args v W':=by
 have hW':=hW
 obtain ⟨p,q,hA,hV,rfl,hfz,hnd⟩:=hW
 rw [hv] at hV
 obtain ⟨rfl,rfl⟩:=trodVars_none hV
 simp only [List.all_eq_true,Bool.and_eq_true,decide_eq_true_eq] at hr
 obtain ⟨ar,h1,h2,h3,h4⟩:=D9 (P:=C.prog) hT (M:=fun _=>False) (fun b _ _ h=>h) (n:=n) (b0:=base) fn.params.toList args.toList ds p hA
  (fun j t v a b=>hval j t v (by simpa using a) (by simpa using b)) (fun t ht=>(hr t ht).2) (fun k hk=>by
   rw [List.all_eq_true] at hsz
   have hv0:s.plain.varTypes C.prog=[]:=by unfold ChangeSpec.plain; simp only [hv]; rfl
   rw [hv0,List.append_nil,List.append_nil] at hsz
   have h:=hsz k hk
   rw [decide_eq_true_eq] at h
   exact h)
 refine (law ar h3 h4 W (fun _=>False) args (fun b h=>h.elim) ⟨by simpa using h1.symm,fun j x hj => ?_,hTab⟩).mono fun e W' hG => ?_
 ·obtain ⟨v,g1,g2⟩:=h2 j x hj
  have g1':args[j]? = some v:=by simpa using g1
  rw [Array.getD_eq_getD_getElem?,g1']
  exact g2
 ·obtain ⟨v,rfl,hb,hv1⟩:=hG
  have hv2:RP W' (fun _=>False) (.bool true) v:=hv1
  cases hv2
  have hlen:ds.length=fn.params.toList.length:=by
   have : ∀ {ts:List TypeId} {vs:List Value} {ds:List (DataW H)} {ps:List MemPlace},DataW.TrodAll enc C.prog W 0 (fun _=>true) true ts vs ds ps→ds.length=ts.length:=by
    intro ts
    induction ts with
    | nil=>intro vs ds ps h; cases vs <;> cases ds <;> first | rfl | exact h.elim
    | cons t ts ih =>
     intro vs ds ps h
     cases vs with
     | nil=>exact h.elim
     | cons v vs=>cases ds with
      | nil=>exact h.elim
      | cons d ds=>obtain ⟨_,_,_,h2,_⟩:=h; simp [ih h2]
   exact this hA
  obtain ⟨e1,e2,e3⟩:=hs ds hlen
  refine ⟨_,rfl,DR (pa:=p) (pv:=[]) hW' ?_ ?_ ?_ (by simp) hb ?_⟩
  ·intro b sp hd
   rw [List.append_nil,e1,hres]
   exact trodAll_mk1 ⟨1,by simp [DataW.trod,htb,Value.cells]⟩
  ·intro sp hsp
   rw [List.append_nil,e2]
   refine uU hl (fun t ht=>(hr t ht).1) hA (fun x hx=>hb.same (hW'.lt x (by simpa using hx))) (fun x hx=>hsp x (by simpa using hx))
  ·intro sp _
   rw [List.append_nil,e3,hv]
   rfl
  ·exact ok_one hres rfl (by simp [Value.okWide,htb,Cell.okWide,Cell.ok])
theorem RS {H:Type} {enc:TypeId×Value→H} {C:Checked} {os:Os} {T:Nat→Option Ty} {f:FuncId} {fn:Func} {s:ChangeSpec} {conds:List PathCond} {apart fresh handsOn again:Bool} {tb n:Nat} {X:World→Array Value→Prop}
  (hX : ∀ (w w':World) (args:Array Value),w.heap=w'.heap→X w args→X w' args) (hTab : ∀ (w:World) (args:Array Value),X w args→Gd w (fun _=>False))
  (hT:kT C.prog T) (own:ownKnob C.prog.godebug=none) (started:os.Started) (noInit:C.prog.inits.idxOf? f=none) (hfn:C.prog.funcs[f]? = some fn)
  (witness : ∃ (w:World) (tape:Tape) (i:Input),w.os=os∧(w.forCall tape i).Shaped C.prog∧i.vars=[]∧Input.okWide C.prog (w.forCall tape i) .any w.heap.size f i ∧
   ((s.pre enc C.prog fn conds apart (w.forCall tape i).memory i.args∧X (w.forCall tape i).memory i.args)∧sizedMet enc C.prog fn (OpenSpec.ofChange s) apart (w.forCall tape i).memory i.args)∧({} : Assume).holds C.prog (lone (Frame.enter C.prog f i.args .normal) [] (w.forCall tape i)))
  (hl:laidOutB C.prog=true) (hr:(fn.params.toList.all fun t=>C.prog.readableRec t&&decide (t<C.prog.types.size)&&PG T n t)=true)
  (hres:fn.resultTypes = #[tb]) (htb:C.prog.underlying tb=some .bool) (hv:s.vars=[])
  (hs : ∀ ds:List (DataW H),ds.length=fn.params.toList.length→(s.fn H ds).results=[.lit (.bool true)]∧(s.fn H ds).args=ds∧(s.fn H ds).vars=[])
  (law : ∀ ar:List D,ar.length=fn.params.toList.length→(∀ (j:Nat) t,fn.params.toList[j]? = some t→∃ x,ar[j]? = some x∧py T n t x)→K4 C.prog f ar (.bool true)) :
  ReturnsInHanded {} C os f .any (fun w args=>(s.pre enc C.prog fn conds apart w args∧X w args)∧sizedMet enc C.prog fn (OpenSpec.ofChange s) apart w args) (s.post enc C.prog fn apart fresh handsOn again):=by
 refine returnsInHanded_of_change_and hX own started noInit hfn witness ?_
 intro W base args ds gs before hval hW _ hsz hx _
 exact RR hT hl hr hres htb hv hs law hval hW hsz (hTab W args hx)
end Go.Proofs.YtpkahnkoecbndaaGreatDoor.Am
namespace Go.Proofs.YtpkahnkoecbndaaGreatDoor.Am
open Go.RowKit
set_option linter.unusedSimpArgs false
set_option linter.unusedVariables false
theorem VM {T:Nat→Option Ty} {n t:Nat} {ar:List D} (h:ar.length=[t].length) (hs : ∀ (j:Nat) u,[t][j]? = some u→∃ x,ar[j]? = some x∧py T n u x) : ∃ a,ar=[a]∧py T n t a:=by
 match ar,h with
 | [a],_=>obtain ⟨x,h1,h2⟩:=hs 0 t rfl; cases h1; exact ⟨a,rfl,h2⟩
theorem VN {T:Nat→Option Ty} {n t:Nat} {ts:List Nat} {ar:List D} (h:ar.length=(t::ts).length) (hs : ∀ (j:Nat) u,(t::ts)[j]? = some u→∃ x,ar[j]? = some x∧py T n u x) :
  ∃ a X5,ar=a::X5∧py T n t a∧X5.length=ts.length∧∀ (j:Nat) u,ts[j]? = some u→∃ x,X5[j]? = some x∧py T n u x:=by
 match ar,h with
 | a::X5,h =>
  obtain ⟨x,h1,h2⟩:=hs 0 t rfl
  cases h1
  exact ⟨a,X5,rfl,h2,by simpa using h,fun j u hu=>by simpa using hs (j+1) u (by simpa using hu)⟩
section
variable {T:Nat→Option Ty} {n t:Nat} {τ:Ty} {d:D}
theorem S8 {k:IntKind} (h:py T (n+1) t d) (hτ:T t=some τ) (hd:τ.ds = .int k) : ∃ i,d = .int k i∧(Lit.int k i).wf=true:=by
 simp only [py,hτ,hd,Ds.nN,Bool.false_eq_true,if_false,zA] at h
 obtain ⟨_,i,hi,hw⟩:=h
 cases hi
 exact ⟨i,rfl,hw⟩
theorem Ld {fs:List (Nat×Nat)} (h:py T n t d) (hτ:T t=some τ) (hd:τ.ds = .struct fs) : ∃ xs,d = .agg xs∧zA T n t xs:=by
 simp only [py,hτ,hd,Ds.nN,if_true] at h
 exact h
theorem OW {e:Nat} (h:py T n t d) (hτ:T t=some τ) (hd:τ.ds = .slice e):zA T n t [d]:=by
 simp only [py,hτ,hd,Ds.nN,Bool.false_eq_true,if_false] at h
 exact h
theorem TV {k:IntKind} {xs:List D} (h:zA T (n+1) t xs) (hτ:T t=some τ) (hd:τ.ds = .int k) : ∃ i,xs=[.int k i]∧(Lit.int k i).wf=true:=by
 simp only [zA,hτ,hd] at h
 exact h.2
theorem TW {xs:List D} (h:zA T (n+1) t xs) (hτ:T t=some τ) (hd:τ.ds = .str) : ∃ s:ByteArray,xs=[.str s]∧s.size≤140737488351232:=by
 simp only [zA,hτ,hd] at h
 exact h.2
theorem PX {e:Nat} {φ:Ty} {xs:List D} (h:zA T (n+1) t xs) (hτ:T t=some τ) (hd:τ.ds = .slice e) (hφ:T e=some φ) :
  ∃ len ys,xs=[.sl false false len ys]∧len*φ.bytes≤140737488351232∧ys.length=len*φ.size∧∀ i,i<len→zA T n e ((ys.drop (i*φ.size)).take φ.size):=by
 simp only [zA,hτ,hd] at h
 obtain ⟨_,len,ys,ψ,h1,h3,h4,h5,h6⟩:=h
 rw [hφ] at h4
 cases h4
 exact ⟨len,ys,h1,h3,h5,h6⟩
theorem MI {fs:List (Nat×Nat)} {xs:List D} (h:zA T (n+1) t xs) (hτ:T t=some τ) (hd:τ.ds = .struct fs):xs.length=τ.size∧∀ f∈fs,∃ φ,T f.1=some φ∧zA T n f.1 ((xs.drop f.2).take φ.size):=by
 simp only [zA,hτ,hd] at h
 exact h
end
end Go.Proofs.YtpkahnkoecbndaaGreatDoor.Am
namespace Go.Proofs.YtpkahnkoecbndaaGreatDoor.Am
open Go.RowKit Go.Proofs.YtpkahnkoecbndaaGreatDoor.P
set_option linter.unusedSimpArgs false
set_option linter.unusedVariables false
def C5 {α:Type} (T:Nat→Option Ty) (n t:Nat) (E:jH α) (ok:α→Prop):Prop:=(∃ φ,T t=some φ∧φ.size=E.size)∧∀ xs,zA T n t xs→∃ x,xs=E.cells x∧ok x
section
variable {T:Nat→Option Ty} {n t:Nat} {τ:Ty}
theorem X4 {k:IntKind} (hτ:T t=some τ) (hd:τ.ds = .int k) (hs:τ.size=1):C5 T (n+1) t (eI k) (fun i=>(Lit.int k i).wf=true):=⟨⟨τ,hτ,hs⟩,fun _ h=>TV h hτ hd⟩
theorem V8 (hτ:T t=some τ) (hd:τ.ds = .str) (hs:τ.size=1):C5 T (n+1) t lM (fun s=>s.size≤140737488351232):=⟨⟨τ,hτ,hs⟩,fun _ h=>TW h hτ hd⟩
theorem UD {α:Type} (E:jH α) (ok:α→Prop) : ∀ (len:Nat) (ys:List D),ys.length=len*E.size→(∀ i,i<len→∃ x,(ys.drop (i*E.size)).take E.size=E.cells x∧ok x)→∃ l:List α,l.length=len∧ys=ab E l∧∀ x∈l,ok x
 | 0,ys,hl,_=>⟨[],rfl,by simpa [ab] using hl,fun x hx=>by simp at hx⟩
 | len+1,ys,hl,h=>by
  obtain ⟨x,hx,hok⟩:=h 0 (by omega)
  obtain ⟨l,h1,h2,h3⟩:=UD E ok len (ys.drop E.size) (by rw [List.length_drop,hl,Nat.succ_mul]; omega) (fun i hi=>by
   obtain ⟨y,hy,hy2⟩:=h (i+1) (by omega)
   refine ⟨y,?_,hy2⟩
   rw [List.drop_drop]
   rw [Nat.succ_mul,Nat.add_comm] at hy
   exact hy)
  rw [Nat.zero_mul,List.drop_zero] at hx
  refine ⟨x::l,by simp [h1],?_,fun y hy => ?_⟩
  ·rw [aS,← h2,← hx,List.take_append_drop]
  ·rcases List.mem_cons.1 hy with rfl | hy
   ·exact hok
   ·exact h3 y hy
theorem TF {α:Type} {E:jH α} {ok:α→Prop} {e:Nat} (hτ:T t=some τ) (hd:τ.ds = .slice e) (hs:τ.size=1) {B:Nat} (hB:(T e).map (·.bytes)=some B) (he:C5 T n e E ok):C5 T (n+1) t (oS E) (fun l=>l.length*B≤140737488351232∧∀ x∈l,ok x):=by
 obtain ⟨⟨φ,hφ,hz⟩,hx⟩:=he
 have hb:φ.bytes=B:=by rw [hφ] at hB; simpa using hB
 refine ⟨⟨τ,hτ,hs⟩,fun xs h => ?_⟩
 obtain ⟨len,ys,h1,h2,h3,h4⟩:=PX h hτ hd hφ
 rw [hz] at h3 h4
 rw [hb] at h2
 obtain ⟨l,k1,k2,k3⟩:=UD E ok len ys h3 fun i hi=>hx _ (h4 i hi)
 subst k1 k2
 exact ⟨l,h1,h2,k3⟩
def W8 {α:Type} (T:Nat→Option Ty) (n:Nat) (fs:List (Nat×Nat)) (o:Nat) (E:jH α) (ok:α→Prop):Prop :=
 ∀ xs:List D,xs.length=o+E.size→(∀ f∈fs,∃ φ,T f.1=some φ∧zA T n f.1 ((xs.drop f.2).take φ.size))→∃ x,xs.drop o=E.cells x∧ok x
theorem Mj {α:Type} {E:jH α} {ok:α→Prop} {ft o:Nat} (h:C5 T n ft E ok):W8 T n [(ft,o)] o E ok:=by
 obtain ⟨⟨φ,hφ,hz⟩,hx⟩:=h
 intro xs hl hf
 obtain ⟨ψ,h1,h2⟩:=hf (ft,o) (by simp)
 cases hφ.symm.trans h1
 rw [List.take_of_length_le (by rw [List.length_drop]; omega)] at h2
 exact hx _ h2
theorem zN {α β:Type} {E:jH α} {ok:α→Prop} {E':jH β} {ok':β→Prop} {ft o o':Nat} {fs:List (Nat×Nat)} (h:C5 T n ft E ok) (ho:o'=o+E.size) (h':W8 T n fs o' E' ok'):W8 T n ((ft,o)::fs) o (kv E E') (fun x=>ok x.1∧ok' x.2):=by
 subst ho
 obtain ⟨⟨φ,hφ,hz⟩,hx⟩:=h
 intro xs hl hf
 obtain ⟨ψ,h1,h2⟩:=hf (ft,o) (by simp)
 cases hφ.symm.trans h1
 obtain ⟨x,hx1,hx2⟩:=hx _ h2
 obtain ⟨y,hy1,hy2⟩:=h' xs (by rw [hl]; show o+(E.size+E'.size)=_; omega) fun f hf'=>hf f (List.mem_cons_of_mem _ hf')
 refine ⟨(x,y),?_,hx2,hy2⟩
 show xs.drop o=E.cells x++E'.cells y
 rw [← hx1,← hy1,← hz,← List.drop_drop,List.take_append_drop]
theorem Vh {α β:Type} {E:jH β} {ok:β→Prop} {f:α→β} {hf : ∀ x y,f x=f y→x=y} {g:β→α} {fs:List (Nat×Nat)} (hτ:T t=some τ) (hd:τ.ds = .struct fs) (hs:τ.size=E.size) (hg : ∀ y,f (g y)=y) (h:W8 T n fs 0 E ok):C5 T (n+1) t (zC E f hf) (fun x=>ok (f x)):=by
 refine ⟨⟨τ,hτ,hs⟩,fun xs hx => ?_⟩
 obtain ⟨h1,h2⟩:=MI hx hτ hd
 obtain ⟨y,h3,h4⟩:=h xs (by rw [h1,hs,Nat.zero_add]) h2
 refine ⟨g y,?_,?_⟩
 ·show xs=E.cells (f (g y))
  rw [hg,← h3,List.drop_zero]
 ·show ok (f (g y))
  rw [hg]; exact h4
def VJ {α:Type} (T:Nat→Option Ty) (n t:Nat) (A:Arg α) (ok:α→Prop):Prop:=∀ d,py T n t d→∃ x,d=A.d x∧ok x
theorem Xx {k:IntKind} (hτ:T t=some τ) (hd:τ.ds = .int k):VJ T (n+1) t (aI k) (fun i=>(Lit.int k i).wf=true):=fun _ h=>S8 h hτ hd
theorem Ve {α:Type} {E:jH α} {ok:List α→Prop} {e:Nat} (hτ:T t=some τ) (hd:τ.ds = .slice e) (hE:C5 T n t (oS E) ok):VJ T n t (ie E) ok:=fun d h=>by
 obtain ⟨x,h1,h2⟩:=hE.2 _ (OW h hτ hd)
 simp only [xq,List.cons.injEq,and_true] at h1
 exact ⟨x,h1,h2⟩
theorem X3 {α:Type} {E:jH α} {ok:α→Prop} {fs:List (Nat×Nat)} (hτ:T t=some τ) (hd:τ.ds = .struct fs) (hE:C5 T n t E ok):VJ T n t (dO E) ok:=fun d h=>by
 obtain ⟨xs,rfl,h1⟩:=Ld h hτ hd
 obtain ⟨x,h1,h2⟩:=hE.2 _ h1
 exact ⟨x,by rw [h1]; rfl,h2⟩
def Qb {α:Type} (T:Nat→Option Ty) (n:Nat) (ts:List Nat) (A:l9 α) (ok:α→Prop):Prop:=∀ ar:List D,ar.length=ts.length→(∀ (j:Nat) u,ts[j]? = some u→∃ x,ar[j]? = some x∧py T n u x)→∃ x,ar=A.ds x∧ok x
theorem Xy {α:Type} {A:Arg α} {ok:α→Prop} (h:VJ T n t A ok):Qb T n [t] (ef A) ok:=fun ar hl hs=>by
 obtain ⟨a,rfl,ha⟩:=VM hl hs
 obtain ⟨x,rfl,hx⟩:=h a ha
 exact ⟨x,rfl,hx⟩
theorem PF {α β:Type} {A:Arg α} {ok:α→Prop} {B:l9 β} {ok':β→Prop} {ts:List Nat} (h:VJ T n t A ok) (h':Qb T n ts B ok'):Qb T n (t::ts) (eg A B) (fun x=>ok x.1∧ok' x.2):=fun ar hl hs=>by
 obtain ⟨a,ar,rfl,ha,hl',hs'⟩:=VN hl hs
 obtain ⟨x,rfl,hx⟩:=h a ha
 obtain ⟨y,rfl,hy⟩:=h' ar hl' hs'
 exact ⟨(x,y),rfl,hx,hy⟩
theorem U8 {P:Program} {f:FuncId} {α:Type} {A:l9 α} {F:α→Option Bool} {ok:α→Prop} {ts:List Nat} (ho:Qb T n ts A ok) (hG:bW P f (eZ A F (fun r => .clean (.bool r)))) (h : ∀ x,ok x→F x=some true) (ar:List D) (hl:ar.length=ts.length)
  (hs : ∀ (j:Nat) u,ts[j]? = some u→∃ x,ar[j]? = some x∧py T n u x):K4 P f ar (.bool true):=by
 obtain ⟨x,rfl,hx⟩:=ho ar hl hs
 refine hG.calls none _ _ none ?_
 rw [aR,h x hx]
 rfl
end
end Go.Proofs.YtpkahnkoecbndaaGreatDoor.Am
namespace Go.Proofs.YtpkahnkoecbndaaGreatDoor.P
open Go.RowKit
set_option linter.unusedSimpArgs false
set_option linter.unusedVariables false
def B0 (n:Int):ByteArray:=⟨(Lib.itoa n).toArray⟩
def VZ (n:Int):Option ByteArray:=if -9223372036854775808≤n∧n≤9223372036854775807 then some (B0 n) else none
def iM (l:List Int):List UInt8:=l.flatMap fun x=>Lib.itoa x++[59]
def ml (l:List Int):List UInt8:=Lib.itoa l.length++(91::(iM l++[93]))
def N5 (l:List Int):Option ByteArray:=if (∀ x∈l,-9223372036854775808≤x∧x≤9223372036854775807)∧l.length*8≤140737488351232∧(ml l).length≤140737488355328 then some ⟨(ml l).toArray⟩ else none
def NA (l:List Int):Option (List Int):=if l.length≤9223372036854775807 then some (Lib.compact l) else none
def Ah (l:List Int):Option (List Int):=some l
def wX (l:List Int):Option (List Int):=if l.length*8≤140737488351232 then some (gn l) else none
def U6 {α:Type} (bytes:Nat) (l:List α) (i:Int) (xs:List α):Option (List α):=if 0≤i∧i≤l.length∧0<xs.length∧(l.length+xs.length)*bytes≤140737488355328 then some (l.take i.toNat++(xs++l.drop i.toNat)) else none
def Cm {α:Type} (mk:ByteArray→Int→Int→Int→Int→α) (val bl:α→Int) (l:List α) (p:Int×Int):Option α:=(P.idx l p.1).bind fun x=>(P.idx l p.2).bind fun y=>some (mk ⟨#[]⟩ (IntKind.i64.wrap (val x+val y)) (IntKind.i64.wrap (bl x+bl y)) p.1 p.2)
def K8 {α:Type} (_:List α) (x:α):Option α:=some x
end Go.Proofs.YtpkahnkoecbndaaGreatDoor.P
namespace Go.Proofs
open Go.Shelf
def Tryz.Ju:Go.Shelf.Ren:=⟨fun | 189=>69 | 125=>107 | 257=>106 | 128=>148 | 129=>149 | 294=>139 | 295=>140 | 296=>141 | 297=>142 | 298=>143 | 299=>144 | 216=>145 | 300=>146 | 301=>147 | 328=>170 | 329=>171 | 330=>172 | 331=>173 | 332=>174 | 215=>166 | 343=>180 | n=>n,fun | 28=>25 | 3=>3 | 46=>141 | 0=>0 | 51=>176 | 53=>178 | 4=>4 | 183=>170 | 182=>169 | 131=>160 | 5=>5 | 9=>9 | 218=>185 | 222=>189 | 228=>195 | 229=>196 | n=>n,fun | n=>n⟩
theorem Tryz.GN:Go.Proofs.Lays.n189 Tryz.prog Tryz.Ju:={
 mixed:=by kernel_rfl
 f125:=Tryz.func107.trans (congrArg some (by kernel_rfl))
 f128:=Tryz.func148.trans (congrArg some (by kernel_rfl))
 f129:=Tryz.func149.trans (congrArg some (by kernel_rfl))
 f189:=Tryz.func69.trans (congrArg some (by kernel_rfl))
 f215:=Tryz.func166.trans (congrArg some (by kernel_rfl))
 f216:=Tryz.func145.trans (congrArg some (by kernel_rfl))
 f257:=Tryz.func106.trans (congrArg some (by kernel_rfl))
 f294:=Tryz.func139.trans (congrArg some (by kernel_rfl))
 f295:=Tryz.func140.trans (congrArg some (by kernel_rfl))
 f296:=Tryz.func141.trans (congrArg some (by kernel_rfl))
 f297:=Tryz.func142.trans (congrArg some (by kernel_rfl))
 f298:=Tryz.func143.trans (congrArg some (by kernel_rfl))
 f299:=Tryz.func144.trans (congrArg some (by kernel_rfl))
 f300:=Tryz.func146.trans (congrArg some (by kernel_rfl))
 f301:=Tryz.func147.trans (congrArg some (by kernel_rfl))
 f328:=Tryz.func170.trans (congrArg some (by kernel_rfl))
 f329:=Tryz.func171.trans (congrArg some (by kernel_rfl))
 f330:=Tryz.func172.trans (congrArg some (by kernel_rfl))
 f331:=Tryz.func173.trans (congrArg some (by kernel_rfl))
 f332:=Tryz.func174.trans (congrArg some (by kernel_rfl))
 f343:=Tryz.func180.trans (congrArg some (by kernel_rfl))
 t0:=Tryz.underlying0
 a0:=Tryz.isAgg0
 z0:=Tryz.sizeOf0
 v0:=Tryz.zeroValue0
 t3:=Tryz.underlying3
 a3:=Tryz.isAgg3
 z3:=Tryz.sizeOf3
 v3:=Tryz.zeroValue3
 t4:=Tryz.underlying4
 a4:=Tryz.isAgg4
 z4:=Tryz.sizeOf4
 v4:=Tryz.zeroValue4
 t5:=Tryz.underlying5
 a5:=Tryz.isAgg5
 z5:=Tryz.sizeOf5
 v5:=Tryz.zeroValue5
 t9:=Tryz.underlying9
 a9:=Tryz.isAgg9
 z9:=Tryz.sizeOf9
 v9:=Tryz.zeroValue9
 t28:=Tryz.underlying25
 a28:=Tryz.isAgg25
 z28:=Tryz.sizeOf25
 v28:=Tryz.zeroValue25
 t46:=Tryz.underlying141
 a46:=Tryz.isAgg141
 z46:=Tryz.sizeOf141
 v46:=Tryz.zeroValue141
 t51:=Tryz.underlying176
 a51:=Tryz.isAgg176
 z51:=Tryz.sizeOf176
 v51:=Tryz.zeroValue176
 t53:=Tryz.underlying178
 a53:=Tryz.isAgg178
 z53:=Tryz.sizeOf178
 v53:=Tryz.zeroValue178
 t131:=Tryz.underlying160
 a131:=Tryz.isAgg160
 z131:=Tryz.sizeOf160
 v131:=Tryz.zeroValue160
 t182:=Tryz.underlying169
 a182:=Tryz.isAgg169
 z182:=Tryz.sizeOf169
 v182:=Tryz.zeroValue169
 t183:=Tryz.underlying170
 a183:=Tryz.isAgg170
 z183:=Tryz.sizeOf170
 v183:=Tryz.zeroValue170
 t218:=Tryz.underlying185
 a218:=Tryz.isAgg185
 z218:=Tryz.sizeOf185
 v218:=Tryz.zeroValue185
 t222:=Tryz.underlying189
 a222:=Tryz.isAgg189
 z222:=Tryz.sizeOf189
 v222:=Tryz.zeroValue189
 t228:=Tryz.underlying195
 a228:=Tryz.isAgg195
 z228:=Tryz.sizeOf195
 v228:=Tryz.zeroValue195
 t229:=Tryz.underlying196
 a229:=Tryz.isAgg196
 z229:=Tryz.sizeOf196
 v229:=Tryz.zeroValue196 }
def Tryz.GO:Go.Shelf.Ren:=⟨fun | 171=>121 | 243=>161 | 246=>179 | 283=>181 | 284=>182 | 285=>183 | 286=>184 | 129=>149 | 317=>185 | 318=>186 | 319=>187 | 320=>188 | 337=>189 | 338=>190 | n=>n,fun | 3=>3 | 9=>9 | 2=>2 | 4=>4 | 171=>198 | 0=>0 | 53=>178 | 37=>148 | 5=>5 | 173=>200 | 212=>204 | 51=>176 | 20=>20 | 213=>205 | 46=>141 | 232=>206 | 233=>207 | n=>n,fun | 17=>0 | 18=>1 | 19=>2 | n=>n⟩
theorem Tryz.Rq:Go.Proofs.LaysM.n171 Tryz.prog Tryz.GO:={
 mixed:=by kernel_rfl
 f129:=Tryz.func149.trans (congrArg some (by kernel_rfl))
 f171:=Tryz.func121.trans (congrArg some (by kernel_rfl))
 f243:=Tryz.func161.trans (congrArg some (by kernel_rfl))
 f246:=Tryz.func179.trans (congrArg some (by kernel_rfl))
 f283:=Tryz.func181.trans (congrArg some (by kernel_rfl))
 f284:=Tryz.func182.trans (congrArg some (by kernel_rfl))
 f285:=Tryz.func183.trans (congrArg some (by kernel_rfl))
 f286:=Tryz.func184.trans (congrArg some (by kernel_rfl))
 f317:=Tryz.func185.trans (congrArg some (by kernel_rfl))
 f318:=Tryz.func186.trans (congrArg some (by kernel_rfl))
 f319:=Tryz.func187.trans (congrArg some (by kernel_rfl))
 f320:=Tryz.func188.trans (congrArg some (by kernel_rfl))
 f337:=Tryz.func189.trans (congrArg some (by kernel_rfl))
 f338:=Tryz.func190.trans (congrArg some (by kernel_rfl))
 t0:=Tryz.underlying0
 a0:=Tryz.isAgg0
 z0:=Tryz.sizeOf0
 v0:=Tryz.zeroValue0
 t2:=Tryz.underlying2
 a2:=Tryz.isAgg2
 z2:=Tryz.sizeOf2
 v2:=Tryz.zeroValue2
 t3:=Tryz.underlying3
 a3:=Tryz.isAgg3
 z3:=Tryz.sizeOf3
 v3:=Tryz.zeroValue3
 t4:=Tryz.underlying4
 a4:=Tryz.isAgg4
 z4:=Tryz.sizeOf4
 v4:=Tryz.zeroValue4
 t5:=Tryz.underlying5
 a5:=Tryz.isAgg5
 z5:=Tryz.sizeOf5
 v5:=Tryz.zeroValue5
 t9:=Tryz.underlying9
 a9:=Tryz.isAgg9
 z9:=Tryz.sizeOf9
 v9:=Tryz.zeroValue9
 t20:=Tryz.underlying20
 a20:=Tryz.isAgg20
 z20:=Tryz.sizeOf20
 v20:=Tryz.zeroValue20
 t37:=Tryz.underlying148
 a37:=Tryz.isAgg148
 z37:=Tryz.sizeOf148
 v37:=Tryz.zeroValue148
 t46:=Tryz.underlying141
 a46:=Tryz.isAgg141
 z46:=Tryz.sizeOf141
 v46:=Tryz.zeroValue141
 t51:=Tryz.underlying176
 a51:=Tryz.isAgg176
 z51:=Tryz.sizeOf176
 v51:=Tryz.zeroValue176
 t53:=Tryz.underlying178
 a53:=Tryz.isAgg178
 z53:=Tryz.sizeOf178
 v53:=Tryz.zeroValue178
 t171:=Tryz.underlying198
 a171:=Tryz.isAgg198
 z171:=Tryz.sizeOf198
 v171:=Tryz.zeroValue198
 t173:=Tryz.underlying200
 a173:=Tryz.isAgg200
 z173:=Tryz.sizeOf200
 v173:=Tryz.zeroValue200
 t212:=Tryz.underlying204
 a212:=Tryz.isAgg204
 z212:=Tryz.sizeOf204
 v212:=Tryz.zeroValue204
 t213:=Tryz.underlying205
 a213:=Tryz.isAgg205
 z213:=Tryz.sizeOf205
 t232:=Tryz.underlying206
 a232:=Tryz.isAgg206
 z232:=Tryz.sizeOf206
 v232:=Tryz.zeroValue206
 t233:=Tryz.underlying207
 a233:=Tryz.isAgg207
 z233:=Tryz.sizeOf207
 v233:=Tryz.zeroValue207
 g17:=by kernel_rfl
 g18:=by kernel_rfl
 g19:=by kernel_rfl
 i0:=by kernel_rfl
 i2:=by kernel_rfl
 i3:=by kernel_rfl
 i4:=by kernel_rfl
 i5:=by kernel_rfl
 i9:=by kernel_rfl
 i20:=by kernel_rfl
 i37:=by kernel_rfl
 i46:=by kernel_rfl
 i51:=by kernel_rfl
 i53:=by kernel_rfl
 i171:=by kernel_rfl
 i173:=by kernel_rfl
 i212:=by kernel_rfl
 i232:=by kernel_rfl
 i233:=by kernel_rfl
 m17:=by kernel_rfl
 m18:=by kernel_rfl
 m19:=by kernel_rfl }
def Tryz.yX:Go.Shelf.Ren:=⟨fun | 169=>122 | n=>n,fun | 70=>147 | 9=>9 | 0=>0 | 72=>150 | 37=>148 | 127=>181 | 3=>3 | 5=>5 | n=>n,fun | n=>n⟩
theorem Tryz.Tu:Go.Proofs.Lays.n169 Tryz.prog Tryz.yX:={
 mixed:=by kernel_rfl
 f169:=Tryz.func122.trans (congrArg some (by kernel_rfl))
 t0:=Tryz.underlying0
 a0:=Tryz.isAgg0
 z0:=Tryz.sizeOf0
 v0:=Tryz.zeroValue0
 t3:=Tryz.underlying3
 a3:=Tryz.isAgg3
 z3:=Tryz.sizeOf3
 v3:=Tryz.zeroValue3
 t9:=Tryz.underlying9
 a9:=Tryz.isAgg9
 z9:=Tryz.sizeOf9
 v9:=Tryz.zeroValue9
 t37:=Tryz.underlying148
 a37:=Tryz.isAgg148
 z37:=Tryz.sizeOf148
 v37:=Tryz.zeroValue148
 t70:=Tryz.underlying147
 a70:=Tryz.isAgg147
 z70:=Tryz.sizeOf147
 v70:=Tryz.zeroValue147
 t72:=Tryz.underlying150
 a72:=Tryz.isAgg150
 z72:=Tryz.sizeOf150
 v72:=Tryz.zeroValue150
 t127:=Tryz.underlying181
 a127:=Tryz.isAgg181
 z127:=Tryz.sizeOf181
 v127:=Tryz.zeroValue181 }
def Tryz.LO:Go.Shelf.Ren:=⟨fun | 20=>70 | n=>n,fun | 22=>25 | 3=>3 | 4=>4 | 0=>0 | n=>n,fun | n=>n⟩
theorem Tryz.Rp:Go.Proofs.Lays2.n20 Tryz.prog Tryz.LO:={
 mixed:=by kernel_rfl
 f20:=Tryz.func70.trans (congrArg some (by kernel_rfl))
 t0:=Tryz.underlying0
 a0:=Tryz.isAgg0
 z0:=Tryz.sizeOf0
 v0:=Tryz.zeroValue0
 t3:=Tryz.underlying3
 a3:=Tryz.isAgg3
 z3:=Tryz.sizeOf3
 v3:=Tryz.zeroValue3
 t4:=Tryz.underlying4
 a4:=Tryz.isAgg4
 z4:=Tryz.sizeOf4
 v4:=Tryz.zeroValue4
 t22:=Tryz.underlying25
 a22:=Tryz.isAgg25
 z22:=Tryz.sizeOf25
 v22:=Tryz.zeroValue25
 i3:=by kernel_rfl }
def Tryz.LP:Go.Shelf.Ren:=⟨fun | 21=>85 | 27=>117 | 28=>118 | 35=>157 | 39=>177 | n=>n,fun | 22=>25 | 3=>3 | 4=>4 | 0=>0 | n=>n,fun | n=>n⟩
theorem Tryz.U9:Go.Proofs.Lays2.n21 Tryz.prog Tryz.LP:={
 mixed:=by kernel_rfl
 f21:=Tryz.func85.trans (congrArg some (by kernel_rfl))
 f27:=Tryz.func117.trans (congrArg some (by kernel_rfl))
 f28:=Tryz.func118.trans (congrArg some (by kernel_rfl))
 f35:=Tryz.func157.trans (congrArg some (by kernel_rfl))
 f39:=Tryz.func177.trans (congrArg some (by kernel_rfl))
 t0:=Tryz.underlying0
 a0:=Tryz.isAgg0
 z0:=Tryz.sizeOf0
 v0:=Tryz.zeroValue0
 t3:=Tryz.underlying3
 a3:=Tryz.isAgg3
 z3:=Tryz.sizeOf3
 v3:=Tryz.zeroValue3
 t4:=Tryz.underlying4
 a4:=Tryz.isAgg4
 z4:=Tryz.sizeOf4
 v4:=Tryz.zeroValue4
 t22:=Tryz.underlying25
 a22:=Tryz.isAgg25
 z22:=Tryz.sizeOf25
 v22:=Tryz.zeroValue25
 i3:=by kernel_rfl }
theorem Tryz.Q9:Builder.Extra Tryz.prog Tryz.yX:={
 sizeBuilder:=by kernel_rfl
 liesBuilder:=by kernel_rfl
 t5:=Tryz.underlying5
 a5:=Tryz.isAgg5
 z5:=Tryz.sizeOf5
 v5:=Tryz.zeroValue5
 infoByte:=by kernel_rfl
 cellsByte:=by kernel_rfl
 sizeByte:=by kernel_rfl
 neB5:=by decide }
end Go.Proofs
namespace Go.Proofs.YtpkahnkoecbndaaGreatDoor.Am
open Go.RowKit Go.Proofs.YtpkahnkoecbndaaGreatDoor.P
set_option linter.unusedSimpArgs false
set_option linter.unusedVariables false
theorem Ts {α:Type} (E:jH α) {B:Nat} {l n:List α} {i:Int} {x:α} (h:U6 B l i [x]=some n):0≤i∧i≤(l.length:Int)∧l.length+1=n.length∧n.length*B≤140737488355328 ∧
  (ab E l).take (i.toNat*E.size)++(E.cells x++(ab E l).drop (i.toNat*E.size))=ab E n:=by
 unfold U6 at h
 split at h
 ·rename_i hc
  cases h
  obtain ⟨h1,h2,-,h4⟩:=hc
  have hl:l.length+1=(l.take i.toNat++([x]++l.drop i.toNat)).length:=by simp; omega
  refine ⟨h1,h2,hl,by rw [← hl]; exact h4,?_⟩
  rw [fY,fY,fM,tu]
  simp [ab]
 ·cases h
theorem Qd {w:World} {M:Nat→Prop} {k:IntKind} {n:Int} {u:Value} (h:RP w M (.int k n) u):u = .int k n:=by cases h; rfl
theorem Gc {w:World} {M:Nat→Prop} {k:IntKind} {l:List Int} {u:Value} (h:RP w M (.sl false false l.length (ab (eI k) l)) u) :
  ∃ A c,u = .slice A l.length c∧l.length≤c∧c≤maxLen∧(A=none→l.length=0∧c=0)∧(l≠[]→∃ b o,A=some ⟨b,o,none⟩∧b<w.heap.size∧¬ M b∧∀ j,j<l.length→w.cell? ⟨b,o+j,none⟩=some (.int k (l.getD j 0))):=by
 cases h with
 | sl A c nl tight n xs us h1 h2 h3 h4 h5 h6 h7 h8 =>
  refine ⟨A,c,rfl,h1,h2,h4,fun hl => ?_⟩
  have hne:ab (eI k) l≠[]:=by
   intro he
   have:=congrArg List.length he
   rw [cc] at this
   exact hl (List.eq_nil_of_length_eq_zero this)
  obtain ⟨b,o,rfl,hb,hM,hc⟩:=h6 hne
  refine ⟨b,o,rfl,hb,hM,fun j hj => ?_⟩
  rw [hc j (by rw [cc]; exact hj)]
  have hg:(ab (eI k) l)[j]? = some (.int k (l.getD j 0)):=by rw [iV]; simp [List.getD,hj]
  rw [Qd (h7 j _ hg)]
theorem MN {vs:Array Value} (h:vs.size=1):vs = #[vs.getD 0 undef]:=by
 apply Array.ext
 ·simp [h]
 ·intro i h1 h2
  have:i=0:=by omega
  subst this
  simp [Array.getElem?_eq_getElem h1]
theorem TR {P:Program} {f:FuncId} {fn:Func} {α:Type} {A:Arg α} {F:α→Option ByteArray} (hf:P.funcs[f]? = some fn) (hc:(fn.name == "runtime.NumGoroutine")=false∧fn.body.isNone=false)
  (hC : ∀ x r,F x=some r→∀ (w:World) (M:Nat→Prop) (u:Value),RP w M (A.d x) u→Gd w M→Calls P f #[u] w fun e w'=>e = .returned (.string r)∧Below w.heap.size w w'):bW P f (eZ (ef A) F (fun r => .clean (.str r))) where
 callable:=⟨fn,hf,hc⟩
 calls lent ds rk out hg:=by
  obtain ⟨rfl,rfl,a,r,rfl,hr,rfl⟩:=pe hg
  intro w M vs hM hargs
  have hsz:vs.size=1:=hargs.size
  rw [MN hsz]
  refine (hC a r hr w M _ (hargs.at_ 0 _ rfl) hargs.tab).mono fun e w' ⟨he,hb⟩=>⟨_,he,hb,?_⟩
  exact RP.str r
def VH (P:Program) (f:FuncId):Prop:=∀ (n:Int) (w:World),-9223372036854775808≤n→n≤9223372036854775807→(∀ b,qI=some b→∃ ty fr,w.heap[b]? = some (.cells mi ty fr))→Calls P f #[.int .i64 n] w fun e w'=>e = .returned (.string (B0 n))∧Below w.heap.size w w'
def P7 (P:Program) (f:FuncId):Prop:=(∀ (blk off cap:Nat) (zs:List Int) (w:World),Go.Sort.Holds (Value.int .i64) w blk off zs.toArray→zs.length≤9223372036854775807→zs.length≤cap →
 Calls P f #[.slice (some ⟨blk,off,none⟩) zs.length cap] w fun e w'=>e = .returned (.slice (some ⟨blk,off,none⟩) (Lib.compact zs).length cap)∧∃ q,w'=Go.Sort.putRow (Value.int .i64) (Go.Sort.ahead w q) blk off (Lib.compact zs++List.replicate (zs.length - (Lib.compact zs).length) 0).toArray) ∧
 ∀ (a:Option Addr) (cap:Nat) (w:World),Calls P f #[.slice a 0 cap] w fun e w'=>e = .returned (.slice a 0 cap)∧w'=w
theorem Eo (d:Array Int) : ∀ m:Nat,(Lib.compactUpTo d m).length≤m
 | 0=>by simp [Lib.compactUpTo]
 | m+1=>by
  rw [Lib.compactUpTo_succ,List.length_append]
  have:=Eo d m
  split <;> simp <;> omega
theorem AT (l:List Int):(Lib.compact l).length≤l.length:=Eo _ _
theorem Lh {P:Program} {f:FuncId} {fn:Func} {ty:Nat} (hf:P.funcs[f]? = some fn) (hc:(fn.name == "runtime.NumGoroutine")=false∧fn.body.isNone=false) (hC:P7 P f) :
  bW P f (Ux ty (eI .i64) S2 (fun l (_:Unit)=>NA l)) where
 callable:=⟨fn,hf,hc⟩
 calls lent ds rk out hg:=by
  obtain ⟨pre,l,post,a,r,rfl,rfl,hr,rfl,rfl⟩:=J1 hg
  unfold NA at hr
  split at hr
  rotate_left
  ·cases hr
  rename_i hlen
  cases hr
  intro w M go u0 vs hM hgoM hz hmp hrow hlv hargs
  have hvs:vs = #[]:=by
   have:=hargs.1
   simpa [S2] using this
  subst hvs
  have hle:=AT l
  have hnil:Lib.compact ([]:List Int)=[]:=by
   have:=AT ([]:List Int)
   exact List.eq_nil_of_length_eq_zero (Nat.le_zero.1 this)
  rcases hlv.2 ⟨0,0,[],false,false,false⟩ rfl rfl with ⟨g,o',c,N,t,k0,k1,k2,k3,k4,k5⟩ | ⟨k0,hn0,A,k1⟩
  ·cases k0
   subst k1
   obtain ⟨cs,h1,h2,h3⟩:=hrow
   simp only [List.length_append,cc] at h2
   have hN:N=cs.size:=by
    simp only [World.shape?,h1,Option.some.injEq,Prod.mk.injEq] at k5
    exact k5.2.symm
   have hone:(eI IntKind.i64).size=1:=rfl
   by_cases hl:l=[]
   ·subst hl
    refine (hC.2 _ c w).mono fun e w' ⟨he,hw⟩ => ?_
    subst hw
    rw [hnil]
    refine ⟨_,he,⟨rfl,rfl,rfl,Nat.le_refl _,fun k _ _=>rfl⟩,trivial,?_⟩
    by_cases hcc:0<c∨pre.length=0
    ·obtain ⟨k6,k7⟩:=k2 hcc
     exact .inl ⟨(g.1,o'),c,cs,rfl,.inr ⟨g,rfl,rfl⟩,h1,Nat.zero_le _,k4,by rw [hone] at *; omega,by rw [hone] at *; simp [ab]; omega,fun j d hj=>by simp [ab] at hj⟩
    ·have:c=0:=by omega
     subst this
     exact .inr ⟨rfl,rfl,_,rfl⟩
   ·have hpos:0<l.length:=List.length_pos_iff.2 hl
    obtain ⟨k6,k7⟩:=k2 (.inl (by omega))
    subst k6
    have hcell : ∀ j,j<l.length→cs.getD (g.2+(pre.length+j)) undef = .int .i64 (l.getD j 0):=by
     intro j hj
     have hd:(pre++(ab (eI .i64) l++post))[pre.length+j]? = some (.int .i64 (l.getD j 0)):=by
      rw [List.getElem?_append_right (by omega),Nat.add_sub_cancel_left,List.getElem?_append_left (by rw [cc]; exact hj),iV]
      simp [List.getD,hj]
     obtain ⟨_,hp⟩:=h3 _ _ hd
     exact Qd hp
    have hH:Go.Sort.Holds (Value.int .i64) w g.1 (g.2+pre.length) l.toArray:=by
     intro j hj
     simp only [List.size_toArray] at hj
     refine ⟨?_,by simp [World.frozen?,h1]⟩
     have:=bC h1 (j:=g.2+pre.length+j) (by omega)
     rw [this,Nat.add_assoc,hcell j hj]
     simp [List.getD,hj]
    refine (hC.1 g.1 (g.2+pre.length) c l w hH hlen k3).mono fun e w' ⟨he,q,hw⟩ => ?_
    subst hw
    have hdl:(Lib.compact l++List.replicate (l.length - (Lib.compact l).length) 0).length=l.length:=by simp; omega
    have hnew:(Go.Sort.putRow (Value.int .i64) (Go.Sort.ahead w q) g.1 (g.2+pre.length) (Lib.compact l++List.replicate (l.length - (Lib.compact l).length) 0).toArray).heap[g.1]? = some (.cells (Go.Sort.putCells (Value.int .i64) (g.2+pre.length) (Lib.compact l++List.replicate (l.length - (Lib.compact l).length) 0).toArray cs) ty (0,0)):=sO h1
    have hsz:(Go.Sort.putCells (Value.int .i64) (g.2+pre.length) (Lib.compact l++List.replicate (l.length - (Lib.compact l).length) 0).toArray cs).size=cs.size:=by simp [Go.Sort.putCells]
    refine ⟨_,he,⟨rfl,rfl,rfl,by simp [Go.Sort.ahead],fun k hk hn => ?_⟩,trivial,.inl ⟨(g.1,g.2+pre.length),c,_,rfl,.inr ⟨g,rfl,rfl⟩,hnew,by omega,k4,?_,?_,fun j d hj => ?_⟩⟩
    ·exact kF fun e=>hn ⟨g,rfl,e⟩
    ·rw [hsz,hone]; rw [hone] at k7; omega
    ·rw [hsz,cc]; simp only; omega
    ·have hjl:=(List.getElem?_eq_some_iff.1 hj).1
     rw [cc] at hjl
     rw [iV,Option.map_eq_some_iff] at hj
     obtain ⟨z,hz,rfl⟩:=hj
     simp only
     rw [qp (by omega),hdl,if_pos (by omega)]
     have e1:g.2+pre.length+j - (g.2+pre.length)=j:=by omega
     have e2:(Lib.compact l++List.replicate (l.length - (Lib.compact l).length) 0).getD j 0=z:=by rw [List.getD_eq_getElem?_getD,List.getElem?_append_left hjl,hz]; rfl
     rw [e1,e2]
     exact ⟨rfl,.int _ _⟩
  ·subst k1
   have hl:l=[]:=List.eq_nil_of_length_eq_zero hn0
   subst hl
   refine (hC.2 _ 0 w).mono fun e w' ⟨he,hw⟩ => ?_
   subst hw
   rw [hnil]
   exact ⟨_,he,⟨rfl,rfl,rfl,Nat.le_refl _,fun k _ _=>rfl⟩,trivial,.inr ⟨rfl,rfl,_,rfl⟩⟩
theorem iE (b:Nat) {ty:Nat} {fr:Nat×Nat} : ∀ (vs:List Value) (o:Nat) (w:World) (arr:Array Value),w.heap[b]? = some (.cells arr ty fr)→o+vs.length≤arr.size →
  (w.setCells b o vs).os=w.os∧(w.setCells b o vs).tape=w.tape∧(w.setCells b o vs).output=w.output∧(w.setCells b o vs).heap.size=w.heap.size∧(∀ k,k≠b→(w.setCells b o vs).heap[k]? = w.heap[k]?) ∧
  ∃ arr',(w.setCells b o vs).heap[b]? = some (.cells arr' ty fr)∧arr'.size=arr.size∧∀ j,arr'[j]? = if o≤j∧j<o+vs.length then vs[j - o]? else arr[j]?
 | [],o,w,arr,h,_=>⟨rfl,rfl,rfl,rfl,fun k _=>rfl,arr,h,rfl,fun j=>by rw [if_neg (by simp)]⟩
 | v::r,o,w,arr,h,hl=>by
  simp only [List.length_cons] at hl
  have h1:(w.setCell ⟨b,o,none⟩ v).heap[b]? = some (.cells (arr.setIfInBounds o v) ty fr):=by
   simp [World.setCell,Array.getElem?_modify,h]
  obtain ⟨e1,e2,e3,e4,e5,arr',e6,e7,e8⟩:=iE b r (o+1) (w.setCell ⟨b,o,none⟩ v) _ h1 (by simp; omega)
  refine ⟨e1,e2,e3,e4.trans (by simp [World.setCell]),fun k hk=>(e5 k hk).trans (by simp [World.setCell,Array.getElem?_modify,Ne.symm hk]),arr',e6,by simpa using e7,fun j => ?_⟩
  rw [e8 j,Array.getElem?_setIfInBounds]
  simp only [List.length_cons]
  by_cases h1:o+1≤j∧j<o+1+r.length
  ·rw [if_pos h1,if_pos (by omega)]
   have:j - o=(j - (o+1))+1:=by omega
   rw [this,List.getElem?_cons_succ]
  ·rw [if_neg h1]
   by_cases h2:o=j
   ·subst h2
    rw [if_pos rfl,if_pos (by omega),if_pos (by omega),Nat.sub_self]
    rfl
   ·rw [if_neg h2,if_neg (by omega)]
open Go.Shelf in
theorem Pm {P:Program} {ρ:Ren} (L:Lays2.n21 P ρ) {fn:Func} (hf:P.funcs[ρ.f 21]? = some fn) (hc:(fn.name == "runtime.NumGoroutine")=false∧fn.body.isNone=false):P9 P (ρ.f 21) (ρ.t 3,1,8) where
 callable:=⟨fn,hf,hc⟩
 pos:=Nat.one_pos
 calls w go go' u u' i n m cs cs' h1 h2 hne hl hl' ho ho' hi hm hmax:=by
  simp only [Nat.mul_one] at *
  obtain ⟨g',c',arr',rfl,rfl,b1,b2,b3,b4,b5⟩ : ∃ g c arr,go'=some g∧u' = .slice (some ⟨g.1,g.2,none⟩) m c∧w.heap[g.1]? = some (.cells arr (ρ.t 3) (0,0))∧c*1+g.2=arr.size∧m≤c∧c≤maxLen∧∀ (j:Nat) x,cs'[j]? = some x→arr[g.2+j]? = some x:=by
   rcases h2 with ⟨g,c,arr,k⟩ | ⟨_,rfl,_⟩
   ·exact ⟨g,c,arr,by simpa using k⟩
   ·omega
  have hvs : ∀ (j:Nat) v,cs'[j]? = some v→w.cell? ⟨g'.1,g'.2+j,none⟩=some v:=fun j v hj=>by simp [World.cell?,b1,b5 j v hj]
  rcases h1 with ⟨g,c,arr,rfl,rfl,a1,a2,a3,a4,a5⟩ | ⟨rfl,rfl,rfl,A,rfl⟩
  ·have hcs : ∀ (j:Nat) v,cs[j]? = some v→w.cell? ⟨g.1,g.2+j,none⟩=some v:=fun j v hj=>by simp [World.cell?,a1,a5 j v hj]
   have hfz : ∀ j,w.frozen? ⟨g.1,j,none⟩=false:=fun j=>by simp [World.frozen?,a1]
   have hbb:g.1≠g'.1:=hne g g' rfl rfl
   have hlt:g.1<w.heap.size:=(Array.getElem?_eq_some_iff.1 a1).1
   have hsp : ∀ j,j<n+m→n+m≤c→(w.cell? ⟨g.1,g.2+j,none⟩).isSome=true:=fun j hj hr=>by
    simp only [World.cell?,a1]
    rw [Array.getElem?_eq_getElem (by omega)]
    rfl
   by_cases hin:i=n
   ·subst hin
    have ht:cs.take i=cs:=List.take_of_length_le (by omega)
    have hd:cs.drop i=[]:=List.drop_eq_nil_of_le (by omega)
    rw [ht,hd,List.append_nil]
    by_cases hroom:i+m≤c
    ·refine (Any2.slices_Insert_int_end_room L g.1 g.2 i c g'.1 g'.2 m c' cs' w hm hroom (by unfold maxLen at a4; omega) hl' (fun j hj=>by have:=hsp (i+j) (by omega) hroom; rwa [← Nat.add_assoc] at this) (fun j _=>hfz _) hvs ho').mono fun e w' ⟨he,hw⟩ => ?_
     subst hw
     obtain ⟨e1,e2,e3,e4,e5,arr2,e6,e7,e8⟩:=iE g.1 cs' (g.2+i) w arr a1 (by omega)
     refine ⟨_,he,⟨e1,e2,e3,by omega,fun k hk hn=>e5 k (fun h=>hn ⟨g,rfl,h⟩)⟩,g,c,arr2,rfl,.inr ⟨g,rfl,rfl⟩,e6,hroom,a4,by omega,fun j x hj => ?_⟩
     rw [e8]
     by_cases hj2:j<i
     ·rw [if_neg (by omega)]
      rw [List.getElem?_append_left (by omega)] at hj
      exact a5 j x hj
     ·have hjl:=(List.getElem?_eq_some_iff.1 hj).1
      rw [List.length_append] at hjl
      rw [List.getElem?_append_right (by omega)] at hj
      rw [if_pos (by omega)]
      rw [← hj]; congr 1; omega
    ·refine (Any2.slices_Insert_int_end_grow L (some ⟨g.1,g.2,none⟩) i c g'.1 g'.2 m c' cs cs' w hm a3 (by omega) hmax hl hl' (fun h=>by cases h) (fun a ha j v hj=>by cases ha; rw [Addr.add_lit]; exact hcs j v hj) hvs ho').mono fun e w' ⟨he,hw⟩ => ?_
     subst hw
     have hge:=grownCap_ge w (i+m) c (ρ.t 3)
     refine ⟨_,he,ck.pk ((Below.refl _ w).drew.alloc (by simp) _),(w.heap.size,0),_,_,rfl,.inl (Nat.le_refl _),heap_alloc_new w.drew _,hge,grownCap_le_maxLen _ _ _ _ (by unfold maxLen; omega),?_,fun j x hj => ?_⟩
     ·simp [Builtin.zeroCells,Value.cells]; omega
     ·have hjl:=(List.getElem?_eq_some_iff.1 hj).1
      rw [Nat.zero_add,Array.getElem?_append_left (by simpa using hjl)]
      simpa using hj
   ·have hin':i<n:=by omega
    by_cases hroom:n+m≤c
    ·refine (Any2.slices_Insert_int_shift L g.1 g.2 n c i g'.1 g'.2 m c' cs cs' w hin' hm hroom (by unfold maxLen at a4; omega) (Ne.symm hbb) hl hl' hcs (fun j hj=>hsp j hj hroom) (fun j _=>hfz _) hvs ho ho' (ρ.t 3) (ρ.t 3) arr'.size arr.size (by simp [World.shape?,b1]) (by simp [World.shape?,a1]) (by omega) (by simp [World.frozen?,b1]) (by simp [World.frozen?,b1])).mono fun e w' ⟨he,hw⟩ => ?_
     subst hw
     obtain ⟨e1,e2,e3,e4,e5,arr2,e6,e7,e8⟩:=iE g.1 (cs.drop i) (g.2+(i+m)) w.drew arr a1 (by simp; omega)
     obtain ⟨f1,f2,f3,f4,f5,arr3,f6,f7,f8⟩:=iE g.1 cs' (g.2+i) _ arr2 e6 (by omega)
     refine ⟨_,he,⟨f1.trans e1,f2.trans e2,f3.trans e3,by rw [f4,e4]; exact Nat.le_refl _,fun k hk hn=>(f5 k (fun h=>hn ⟨g,rfl,h⟩)).trans (e5 k (fun h=>hn ⟨g,rfl,h⟩))⟩,g,c,arr3,rfl,.inr ⟨g,rfl,rfl⟩,f6,hroom,a4,by omega,fun j x hj => ?_⟩
     have hjl:=(List.getElem?_eq_some_iff.1 hj).1
     simp only [List.length_append,List.length_take,List.length_drop] at hjl
     rw [f8,e8]
     by_cases hj1:j<i
     ·rw [List.getElem?_append_left (by rw [List.length_take]; omega),List.getElem?_take,if_pos hj1] at hj
      rw [if_neg (by omega),if_neg (by simp; omega)]
      exact a5 j x hj
     ·rw [List.getElem?_append_right (by rw [List.length_take]; omega),List.length_take,Nat.min_eq_left (by omega)] at hj
      by_cases hj2:j<i+m
      ·rw [List.getElem?_append_left (by omega)] at hj
       rw [if_pos (by omega),← hj]; congr 1; omega
      ·rw [List.getElem?_append_right (by omega)] at hj
       rw [if_neg (by omega),if_pos (by simp; omega),← hj]; congr 1; omega
    ·refine (Any2.slices_Insert_int_grow L g.1 g.2 n c i g'.1 g'.2 m c' cs cs' w hin' hm a3 (by omega) hmax hl hl' hcs hvs ho ho').mono fun e w' ⟨he,hw⟩ => ?_
     subst hw
     have hge:=grownCap_ge w (n+m) c (ρ.t 3)
     generalize hG:grownCap w (n+m) c (ρ.t 3)=G at *
     generalize hR:((cs.take i).toArray++Builtin.zeroCells (Value.int .i64 0).cells (n+m - i)++Builtin.zeroCells (Value.int .i64 0).cells (G - (n+m)))=R
     have hRs:R.size=G:=by subst hR; simp [Builtin.zeroCells,Value.cells]; omega
     have hR0 : ∀ j,j<i→R[j]? = cs[j]?:=fun j hj=>by
      subst hR
      rw [Array.append_assoc,Array.getElem?_append_left (by simp; omega)]
      simp [List.getElem?_take,hj]
     have hw0:(w.alloc (.cells R (ρ.t 3))).drew.heap[w.heap.size]? = some (.cells R (ρ.t 3) (0,0)):=heap_alloc_new w _
     obtain ⟨e1,e2,e3,e4,e5,arr2,e6,e7,e8⟩:=iE w.heap.size cs' i _ R hw0 (by omega)
     obtain ⟨f1,f2,f3,f4,f5,arr3,f6,f7,f8⟩:=iE w.heap.size (cs.drop i) (i+m) (((w.alloc (.cells R (ρ.t 3))).drew.setCells w.heap.size i cs').drew) arr2 e6 (by simp; omega)
     refine ⟨_,he,⟨f1.trans e1,f2.trans e2,f3.trans e3,?_,fun k hk hn => ?_⟩,(w.heap.size,0),G,arr3,rfl,.inl (Nat.le_refl _),f6,hge,hG ▸ grownCap_le_maxLen _ _ _ _ (by unfold maxLen; omega),by simp only; omega,fun j x hj => ?_⟩
     ·rw [f4]
      show _≤((w.alloc (.cells R (ρ.t 3))).drew.setCells w.heap.size i cs').heap.size
      rw [e4]
      show _≤(w.alloc (.cells R (ρ.t 3))).heap.size
      simp
     ·rw [f5 k (by omega)]
      show ((w.alloc (.cells R (ρ.t 3))).drew.setCells w.heap.size i cs').heap[k]? = _
      rw [e5 k (by omega)]
      exact Below.heap_alloc w _ k hk
     ·have hjl:=(List.getElem?_eq_some_iff.1 hj).1
      simp only [List.length_append,List.length_take,List.length_drop] at hjl
      rw [Nat.zero_add,f8,e8]
      by_cases hj1:j<i
      ·rw [List.getElem?_append_left (by rw [List.length_take]; omega),List.getElem?_take,if_pos hj1] at hj
       rw [if_neg (by omega),if_neg (by omega),hR0 j hj1,hj]
      ·rw [List.getElem?_append_right (by rw [List.length_take]; omega),List.length_take,Nat.min_eq_left (by omega)] at hj
       by_cases hj2:j<i+m
       ·rw [List.getElem?_append_left (by omega)] at hj
        rw [if_neg (by omega),if_pos (by omega),← hj]
       ·rw [List.getElem?_append_right (by omega)] at hj
        rw [if_pos (by simp; omega),← hj]; congr 1; omega
  ·have hi0:i=0:=by omega
   subst hi0
   refine (Any2.slices_Insert_int_end_grow L A 0 0 g'.1 g'.2 m c' [] cs' w hm (Nat.le_refl _) (by omega) (by omega) rfl hl' (fun _=>rfl) (fun a ha j v hj=>by simp at hj) hvs ho').mono fun e w' ⟨he,hw⟩ => ?_
   subst hw
   have hge:=grownCap_ge w (0+m) 0 (ρ.t 3)
   refine ⟨_,he,ck.pk ((Below.refl _ w).drew.alloc (by simp) _),(w.heap.size,0),_,_,rfl,.inl (Nat.le_refl _),heap_alloc_new w.drew _,hge,grownCap_le_maxLen _ _ _ _ (by unfold maxLen; omega),?_,fun j x hj => ?_⟩
   ·have hge':=hge
    simp only [Nat.zero_add] at hge'
    simp [Builtin.zeroCells,Value.cells]; omega
   ·simp only [List.take_nil,List.drop_nil,List.nil_append,List.append_nil] at hj
    have hjl:=(List.getElem?_eq_some_iff.1 hj).1
    rw [Nat.zero_add,Array.getElem?_append_left (by simpa using hjl)]
    simpa using hj
end Go.Proofs.YtpkahnkoecbndaaGreatDoor.Am
namespace Go.Proofs.YtpkahnkoecbndaaGreatDoor.Am
open Go.RowKit Go.Shelf Go.Proofs.YtpkahnkoecbndaaGreatDoor.P
set_option linter.unusedSimpArgs false
set_option linter.unusedVariables false
attribute [local go_sem] Oper.semAt_some
def upto (f:Nat→Int) (k:Nat):List Int:=(List.range k).map f
theorem F8 (f:Nat→Int) (k:Nat):upto f (k+1)=upto f k++[f k]:=by simp [upto,List.range_succ]
theorem KW (f:Nat→Int) (k:Nat):(upto f k).length=k:=by simp [upto]
theorem SO (zs:List Int):upto (fun j=>zs[j]?.getD 0) zs.length=zs:=by
 apply List.ext_getElem
 ·simp [upto]
 ·intro i h1 h2
  simp [upto,h2]
theorem PY (zs:List Int) {k:Nat} (hk:k≤zs.length):upto (fun j=>zs[j]?.getD 0) k=zs.take k:=by
 apply List.ext_getElem
 ·simp [upto,hk]
 ·intro i h1 h2
  have:i<zs.length:=by simp [upto] at h1; omega
  simp [upto,this]
set_option maxRecDepth 100000 in
set_option maxHeartbeats 2000000 in
theorem ML (F:Fence) (n:Nat) (h7:F.fn 156) (hro:F.round=none) (hn:1≤n) (l Bs Bo n₀ b off len cap:Nat) (zs:List Int) (hreach:len*8≤140737488351232) (hb:b<n₀) (J Jx:List Int→World→Prop)
  (hY : ∀ pre x W,J pre W→pre.length<len→YieldAt F (n - 1) Tryz.prog l #[.int .i64 x] W fun e W' =>
   (e = .returned (.bool true)∧J (pre++[x]) W'∧Below n₀ W W')∨(e = .returned (.bool false)∧Jx (pre++[x]) W'))
  (W:World) (hBs:W.cell? ⟨Bs,Bo,none⟩=some (.slice (some ⟨b,off,none⟩) len cap)) (hc : ∀ j,j<len→W.cell? ⟨b,off+j,none⟩=some (.int .i64 (zs[j]?.getD 0))) (h0:J [] W) :
  CallsIn F n Tryz.prog 156 #[.func (.yield l) #[] #[],.pointer (some ⟨Bs,Bo,none⟩)] W fun e W'=>(∃ v,e = .returned v) ∧
   ((∃ ys,ys=upto (fun j=>zs[j]?.getD 0) len∧J ys W')∨(∃ pre,(∃ k,k≤len∧pre=upto (fun j=>zs[j]?.getD 0) k)∧Jx pre W')):=by
 refine callsIn_of_wp Tryz.func156 rfl h7 ?_ hro
 simp only [Tryz.ntmps156,List.size_toArray,List.length_cons,List.length_nil,Nat.reduceAdd,Nat.reduceSub,Array.replicate_succ,Array.replicate_zero,List.push_toArray,List.append_toArray,List.nil_append,List.cons_append]
 gi_wp2
 gi_loopw [7] (fun i wr=>∃ k:Nat,k≤len∧i = .int .i64 k∧J (upto (fun j=>zs[j]?.getD 0) k) wr∧Below n₀ W wr)
  (fun i _=>len - (intOf i).toNat)
 case atStart=>exact ⟨0,Nat.zero_le _,rfl,h0,Below.refl _ _⟩
 case round =>
  obtain ⟨k,hk,rfl,hJs,hnx⟩:=hrel
  have hcx:k<len→wr.cell? ⟨b,off+k,none⟩=some (.int .i64 (zs[k]?.getD 0)):=fun h=>(hnx.cell (p:=⟨b,off+k,none⟩) hb).trans (hc k h)
  by_cases hlt:k<len
  ·obtain ⟨fn,tmps,assign,body,hy,hR⟩:=hY _ (zs[k]?.getD 0) wr hJs (by rw [KW]; exact hlt)
   have hcx':=hcx hlt
   gi_wp2
   refine hR.mono ?_
   rintro e W3 (⟨rfl,hJ3,hk3⟩ | ⟨rfl,hJx3⟩)
   ·gi_wp2
    go_roundw
    case rel=>exact ⟨k+1,by omega,by simp,by rw [F8]; exact hJ3,hnx.trans hk3⟩
    case measure=>simp [intOf]; omega
   ·gi_wp2
    refine bodyPost_ret (results_none rfl _ _ _) rfl ?_
    exact ⟨⟨_,rfl⟩,.inr ⟨_,⟨k+1,by omega,(F8 _ _).symm⟩,hJx3⟩⟩
  ·obtain rfl:k=len:=by omega
   gi_wp2
   go_end0
   exact ⟨⟨_,rfl⟩,.inl ⟨_,rfl,hJs⟩⟩
set_option maxRecDepth 100000 in
set_option maxHeartbeats 1000000 in
theorem C2 (F:Fence) (n:Nat) (h7:F.fn 156) (hro:F.round=none) (l Bs Bo cap:Nat) (A:Option Addr) (J:List Int→World→Prop) (W:World) (hBs:W.cell? ⟨Bs,Bo,none⟩=some (.slice A 0 cap)) (h0:J [] W) :
  CallsIn F n Tryz.prog 156 #[.func (.yield l) #[] #[],.pointer (some ⟨Bs,Bo,none⟩)] W fun e W'=>(∃ v,e = .returned v)∧J [] W':=by
 refine callsIn_of_wp Tryz.func156 rfl h7 ?_ hro
 simp only [Tryz.ntmps156,List.size_toArray,List.length_cons,List.length_nil,Nat.reduceAdd,Nat.reduceSub,Array.replicate_succ,Array.replicate_zero,List.push_toArray,List.append_toArray,List.nil_append,List.cons_append]
 gi_wp2
 gi_loopw [7] (fun i wr=>i = .int .i64 0∧J [] wr) (fun _ _=>0)
 case atStart=>exact ⟨rfl,h0⟩
 case round =>
  obtain ⟨rfl,hJs⟩:=hrel
  gi_wp2
  go_end0
  exact ⟨⟨_,rfl⟩,hJs⟩
def Ints (n₀:Nat) (W:World) (sv:Value) (zs:List Int):Prop :=
 (∃ A c,sv = .slice A 0 c∧zs=[])∨∃ b off cap,sv = .slice (some ⟨b,off,none⟩) zs.length cap∧b<n₀∧∀ j,j<zs.length→W.cell? ⟨b,off+j,none⟩=some (.int .i64 (zs[j]?.getD 0))
theorem Ints.below {n₀:Nat} {A B:World} (h:Below n₀ A B) {sv:Value} {zs:List Int} : Ints n₀ A sv zs→Ints n₀ B sv zs
 | .inl e => .inl e
 | .inr ⟨b,off,cap,e,hb,hc⟩ => .inr ⟨b,off,cap,e,hb,fun j hj=>(h.cell (p:=⟨b,off+j,none⟩) hb).trans (hc j hj)⟩
theorem HB (F:Fence) (n:Nat) (h7:F.fn 156) (hro:F.round=none) (hn:1≤n) (Bs Bo n₀:Nat) (sv:Value) (zs:List Int) (hreach:zs.length*8≤140737488351232) (w:World) (hBs:Bs<w.heap.size) (hn₀:n₀≤w.heap.size)
  (hc:w.cell? ⟨Bs,Bo,none⟩=some sv) (hI:Ints n₀ w sv zs) :
  SeqStopsK F n Tryz.prog 156 #[.pointer (some ⟨Bs,Bo,none⟩)] (fun x:Int=>#[Value.int .i64 x]) (Below n₀) (fun ys=>ys=zs) (fun pre=>pre <+: zs) zs.length w:=fun l J Jx W hW _ _ hY h0=>by
 have hc':=(hW.cell (p:=⟨Bs,Bo,none⟩) hBs).trans hc
 rcases hI.below (hW.mono hn₀) with ⟨A,c,rfl,rfl⟩ | ⟨b,off,cap,rfl,hb,hcs⟩
 ·exact (C2 F n h7 hro l Bs Bo _ _ J W hc' h0).mono fun e W' ⟨he,hj⟩=>⟨he,.inl ⟨_,rfl,hj⟩⟩
 ·refine (ML F n h7 hro hn l Bs Bo n₀ b off zs.length cap zs hreach hb J Jx hY W hc' hcs h0).mono ?_
  rintro e W' ⟨he,⟨ys,rfl,hj⟩ | ⟨pre,⟨k,hk,rfl⟩,hj⟩⟩
  ·exact ⟨he,.inl ⟨_,SO zs,hj⟩⟩
  ·exact ⟨he,.inr ⟨_,by rw [PY zs hk]; exact List.take_prefix _ _,hj⟩⟩
theorem VX:(Tryz.prog.info? 3).map (fun i=>(i.zero,i.size,i.bytes))=some (some (.int .i64 0),1,8):=by kernel_rfl
set_option maxRecDepth 100000 in
set_option maxHeartbeats 2000000 in
theorem appendSeq_in (F:Fence) (n:Nat) (h3:F.fn 176) (h7:F.fn 156) (hro:F.round=none) (hn:3≤n) (Bs Bo:Nat) (sv:Value) (zs:List Int) (hreach:zs.length*8≤140737488351232) (w:World)
  (hBs:Bs<w.heap.size) (hc:w.cell? ⟨Bs,Bo,none⟩=some sv) (hI:Ints w.heap.size w sv zs) :
  CallsIn F n Tryz.prog 176 #[.slice none 0 0,.func (.func 156) #[] #[.pointer (some ⟨Bs,Bo,none⟩)]] w fun e W'=>∃ v,e = .returned v∧W'.ownsRow w.heap.size 3 1 v zs.length (zs.map (Value.int .i64))∧(v = .slice none 0 0↔zs=[])∧Below w.heap.size w W':=by
 have h1:1≤n:=by omega
 obtain ⟨i0,hi,hz0,hz1,hz2⟩:=info_parts VX
 refine callsIn_of_wp_marks Tryz.func176 rfl h3 ?_ hro
 simp only [Tryz.ntmps176,List.size_toArray,List.length_cons,List.length_nil,Nat.reduceAdd,Nat.reduceSub,Array.replicate_succ,Array.replicate_zero,List.push_toArray,List.append_toArray,List.nil_append,List.cons_append]
 gi_wp2
 have bO:=Boxed.new w 25 (.slice none 0 0)
 have hB0:Below w.heap.size w (w.alloc (.cells #[.slice none 0 0] 25)):=(Below.refl _ w).alloc (Nat.le_refl _) _
 refine wpIn_rangeFunc_ownG hro h1 (gf:=156) (lb:=#[.pointer (some ⟨Bs,Bo,none⟩)]) rfl h7 (enters_of Tryz.func156 (by kernel_rfl) rfl)
  (HB F (n - 1) h7 hro (by omega) Bs Bo w.heap.size sv zs hreach _ (by simp; omega) (by simp) ((hB0.cell (p:=⟨Bs,Bo,none⟩) hBs).trans hc) (hI.below hB0)) belowK_t (belowK_b (by simp)) (Below.refl _ _) (fun _=>rfl)
  (fun pre W=>(∃ v,Boxed W w.heap.size 25 v∧W.ownsRow w.heap.size 3 1 v pre.length (pre.map (Value.int .i64))∧(v = .slice none 0 0↔pre=[]))∧Below w.heap.size w W)
  (fun _ _ _=>False)
  (OwnFrom.and (Own.from (holdsRow_own w.heap.size w.heap.size 25 3 1 (fun pre=>pre.length) (fun pre=>pre.map (Value.int .i64)) (fun pre v=>v = .slice none 0 0↔pre=[])) _) (ownFrom_below (Nat.le_refl _) (by simp)))
  (fun _ _ _ _ _ hs _ _=>hs)
  ⟨⟨_,bO,World.ownsRow_nil _ _ _ _,by simp⟩,hB0⟩
  (fun x=>{ tmps:=#[.slice none 0 0,.func (.func 156) #[] #[.pointer (some ⟨Bs,Bo,none⟩)],.pointer (some ⟨w.heap.size,0,none⟩),undef,.slice none 0 0,.int .i64 x,.func (.func 156) #[] #[.pointer (some ⟨Bs,Bo,none⟩)],.int .i64 x,undef,undef,undef,undef,undef],defers:=[] }) ?assign ?body ?done ?stop
 case assign =>
  intro l x W K hK
  gi_wp2
  exact hK
 case body =>
  rintro l pre x W ⟨⟨v,hv,hrow,hnil⟩,hB⟩ hlt
  have hc:=hv.cell
  gi_wp2_with (gi_at_builtin; refine wpListIn_append_own _ rfl _ _ 25 rfl w.heap.size 3 i0 (.int .i64 0) 1 8 Tryz.underlying25 hi hz0 hz1 hz2 rfl (by decide) _ _ _ rfl (hrow.alloc _) ⟨W.heap.size,0,none⟩ 1 1 [.int .i64 x] rfl rfl (cell_one_new _ _ _) (by simp [Value.oneCell']) (by unfold maxLen; omega) (by omega) (by have:=hB.size; simp; omega) ?_; intro v' w1 hown' hgrow _; obtain ⟨g',cap',rfl⟩:=ownsRow_succ hown'; obtain ⟨hv1,hv2,hr2,hk2,hb2⟩:=hv.appended (by decide) hrow hB.size (Nat.le_refl _) hown' hgrow; have hc1:=hv1.cell; have hf1:=hv1.frozen)
  exact ⟨hk2.from _,hb2,⟨_,hv2,by simpa using hr2,by simp⟩,hB.trans hb2⟩
 case done =>
  rintro D ys W hD rfl ⟨⟨v,hv,hrow,hnil⟩,hB⟩ hK
  have hc:=hv.cell
  gi_wp2
  refine ⟨by simp,.inl ⟨_,_,rfl,run_takeDeferred hK,?_⟩⟩
  exact ⟨_,results_tmp rfl _ _ _,v,rfl,ownsRow_putObj hrow _ hK rfl,hnil,hB.trans (belowK_b (w:=w) (Nat.le_refl _) W D _ _ (by simp at hD; omega) hK rfl rfl)⟩
 case stop =>
  rintro D c pre W _ _ h _
  exact h.elim
set_option maxHeartbeats 1000000 in
theorem collect_in (F:Fence) (n:Nat) (h2:F.fn 155) (h3:F.fn 176) (h7:F.fn 156) (hro:F.round=none) (hn:4≤n) (Bs Bo:Nat) (sv:Value) (zs:List Int) (hreach:zs.length*8≤140737488351232) (w:World)
  (hBs:Bs<w.heap.size) (hc:w.cell? ⟨Bs,Bo,none⟩=some sv) (hI:Ints w.heap.size w sv zs) :
  CallsIn F n Tryz.prog 155 #[.func (.func 156) #[] #[.pointer (some ⟨Bs,Bo,none⟩)]] w fun e W'=>∃ v,e = .returned v∧W'.ownsRow w.heap.size 3 1 v zs.length (zs.map (Value.int .i64))∧(v = .slice none 0 0↔zs=[])∧Below w.heap.size w W':=by
 have h1:1≤n:=by omega
 refine callsIn_of_wp Tryz.func155 rfl h2 ?_ hro
 simp only [Tryz.ntmps155,List.size_toArray,List.length_cons,List.length_nil,Nat.reduceAdd,Nat.reduceSub,Array.replicate_succ,Array.replicate_zero,List.push_toArray,List.append_toArray,List.nil_append,List.cons_append]
 gi_wp2_with (gi_at_call 176; refine (appendSeq_in F (n - 1) h3 h7 hro (by omega) Bs Bo sv zs hreach _ hBs hc hI).mono ?_; rintro e w' ⟨v,rfl,hrow,hnil,hb⟩)
 go_ret
 exact ⟨v,rfl,hrow,hnil,hb⟩
theorem TY (a:Option Addr) (len cap:Nat) (w:World) :
  Calls Tryz.prog 116 #[.slice a len cap] w fun e w'=>e = .returned (.func (.func 156) #[] #[.pointer (some ⟨w.heap.size,0,none⟩)])∧w'=w.alloc (.cells #[.slice a len cap] 25):=by
 go_enter Tryz.func116,Tryz.ntmps116
 go_wp2
 go_ret
 exact ⟨rfl,rfl⟩
end Go.Proofs.YtpkahnkoecbndaaGreatDoor.Am
