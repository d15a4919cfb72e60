/- The memory-free machine, part 18: what is left to do, as data: equations for simp. -/
import Derived.Test.YtdecgihkgpgejaaDoorBd
namespace Go.Proofs.YtdecgihkgpgejaaDoor.Am
open Go.RowKit
set_option linter.unusedSimpArgs false
set_option linter.unusedVariables false

/-! Bytes. -/
theorem loop_eq (b : ByteArray) : ∀ (k i : Nat) (r : List UInt8), b.size - i = k → ByteArray.toList.loop b i r = r.reverse ++ b.data.toList.drop i := by
  intro k
  induction k with
  | zero =>
    intro i r h
    rw [ByteArray.toList.loop]
    rw [if_neg (by omega), List.drop_eq_nil_of_le (by have : b.data.toList.length = b.size := rfl; omega), List.append_nil]
  | succ k ih =>
    intro i r h
    have hi : i < b.size := by omega
    have hi' : i < b.data.toList.length := hi
    rw [ByteArray.toList.loop, if_pos hi, ih (i+1) _ (by omega), List.drop_eq_getElem_cons hi']
    have hg : b.get! i = b.data.toList[i] := by
      cases b with
      | mk d =>
        show d[i]! = _
        rw [getElem!_pos d i hi]
        exact (Array.getElem_toList ..).symm
    rw [hg, List.reverse_cons, List.append_assoc]
    rfl
theorem toList_data (b : ByteArray) : b.toList = b.data.toList := by
  unfold ByteArray.toList
  rw [loop_eq b b.size 0 [] rfl]
  rfl
theorem bytes_beq (a b : ByteArray) : (a == b) = (a.toList == b.toList) := by
  rw [toList_data, toList_data]
  cases a with
  | mk a =>
    cases b with
    | mk b =>
      show (a == b) = (a.toList == b.toList)
      by_cases h : a = b
      · subst h; simp
      · have h2 : a.toList ≠ b.toList := fun he => h (Array.toList_inj.mp he)
        rw [beq_eq_false_iff_ne.2 h, beq_eq_false_iff_ne.2 h2]
theorem bytes_eq {a b : ByteArray} (h : (a.toList == b.toList) = true) : a = b := by
  rw [toList_data, toList_data, beq_iff_eq] at h
  exact ByteArray.ext (Array.toList_inj.mp h)

inductive W where
  | code (c : Code)
  | blk (id : Nat)

section
variable (T : Nat → Option Ty) (Γ : Env) (N F : Nat)

def runW : List W → Kt → Kt
  | [], Q => Q
  | .code c :: ws, Q => fun x t h e => seqK x (wpc T Γ N F c t h e (runW ws Q)) (runW ws Q x t h e)
  | .blk id :: ws, Q => fun x t h e => blkK id x t h e (runW ws Q)

/-- The rest of a region, then the rest of the code. -/
def runO (ops l : List Oper) (ws : List W) (Q : Kt) (t : Nat → D) (h : Nat → Option Row) (e : Nat) : Prop :=
  runU T Γ N e ops l t h fun t h => runW T Γ N F ws Q .normal t h (e + 1)

/-- The same in a region of which the order is drawn. -/
def runP (ops l : List Oper) (ws : List W) (Q : Kt) (t : Nat → D) (h : Nat → Option Row) (e : Nat) (fs : List Foot) : Prop :=
  runK T Γ N e ops l t h fs fun t h fs => dynOk ops.toArray fs = true ∧ runW T Γ N F ws Q .normal t h (e + 1)

/-- One operation, its guard being passed. -/
def doO (o : Oper) (ops l : List Oper) (ws : List W) (Q : Kt) (t : Nat → D) (h : Nat → Option Row) (e : Nat) : Prop :=
  wpE T Γ e o t h fun t E => runO T Γ N F ops l ws Q (putT t o.dst E.val) (applyH h E.hw) e
def doP (o : Oper) (ops l : List Oper) (ws : List W) (Q : Kt) (t : Nat → D) (h : Nat → Option Row) (e : Nat) (fs : List Foot) : Prop :=
  wpE T Γ e o t h fun t E => runP T Γ N F ops l ws Q (putT t o.dst E.val) (applyH h E.hw) e (fs ++ [⟨touch o (ev t), E.hw.isEmpty⟩])

/-- An operation's guard: the slot g, which holds d. -/
def tstO (d : D) (g : Nat) (want : Bool) (o : Oper) (ops l : List Oper) (ws : List W) (Q : Kt) (t : Nat → D) (h : Nat → Option Row) (e : Nat) : Prop :=
  wpS d t g (fun t => if want then doO T Γ N F o ops l ws Q t h e else runO T Γ N F ops l ws Q (putT t o.dst .skp) h e) (fun t => if want then runO T Γ N F ops l ws Q (putT t o.dst .skp) h e else doO T Γ N F o ops l ws Q t h e) (fun t => runO T Γ N F ops l ws Q (putT t o.dst .skp) h e)
def tstP (d : D) (g : Nat) (want : Bool) (o : Oper) (ops l : List Oper) (ws : List W) (Q : Kt) (t : Nat → D) (h : Nat → Option Row) (e : Nat) (fs : List Foot) : Prop :=
  wpS d t g (fun t => if want then doP T Γ N F o ops l ws Q t h e fs else runP T Γ N F ops l ws Q (putT t o.dst .skp) h e (fs ++ [⟨[], true⟩])) (fun t => if want then runP T Γ N F ops l ws Q (putT t o.dst .skp) h e (fs ++ [⟨[], true⟩]) else doP T Γ N F o ops l ws Q t h e fs) (fun t => runP T Γ N F ops l ws Q (putT t o.dst .skp) h e (fs ++ [⟨[], true⟩]))

/-- An effect is known. -/
def stE (x : Option Eff) (dst : Option Nat) (ops l : List Oper) (ws : List W) (Q : Kt) (t : Nat → D) (h : Nat → Option Row) (e : Nat) : Prop :=
  obind x fun E => runO T Γ N F ops l ws Q (putT t dst E.val) (applyH h E.hw) e
def stP (x : Option Eff) (dst : Option Nat) (ft : List Nat) (ops l : List Oper) (ws : List W) (Q : Kt) (t : Nat → D) (h : Nat → Option Row) (e : Nat) (fs : List Foot) : Prop :=
  obind x fun E => runP T Γ N F ops l ws Q (putT t dst E.val) (applyH h E.hw) e (fs ++ [⟨ft, E.hw.isEmpty⟩])

/-- A branch of the code: the slot g holds d. -/
def tstC (d : D) (g : Nat) (x y : Code) (ws : List W) (Q : Kt) (t : Nat → D) (h : Nat → Option Row) (e : Nat) : Prop :=
  wpD d t g (fun t => runW T Γ N F (.code x :: ws) Q .normal t h e) (fun t => runW T Γ N F (.code y :: ws) Q .normal t h e)

/-- A choice: the slot g holds d. -/
def pickO (d : D) (g : Nat) (a b : Operand) (dst : Option Nat) (ops l : List Oper) (ws : List W) (Q : Kt) (t : Nat → D) (h : Nat → Option Row) (e : Nat) : Prop :=
  wpD d t g (fun t => runO T Γ N F ops l ws Q (putT t dst (ev t a)) h e) (fun t => runO T Γ N F ops l ws Q (putT t dst (ev t b)) h e)
def pickP (d : D) (g : Nat) (a b : Operand) (dst : Option Nat) (ops l : List Oper) (ws : List W) (Q : Kt) (t : Nat → D) (h : Nat → Option Row) (e : Nat) (fs : List Foot) : Prop :=
  wpD d t g (fun t => runP T Γ N F ops l ws Q (putT t dst (ev t a)) h e (fs ++ [⟨[], true⟩])) (fun t => runP T Γ N F ops l ws Q (putT t dst (ev t b)) h e (fs ++ [⟨[], true⟩]))

/-- A loop. -/
def runLoop (b : Code) (ws : List W) (Q : Kt) (t : Nat → D) (h : Nat → Option Row) (e : Nat) : Prop := wpc T Γ N F (.loop b) t h e (runW T Γ N F ws Q)
end

theorem le_maxLen {n : Nat} (h : n ≤ 1000000) : n ≤ maxLen := Nat.le_trans h (by decide)
theorem repD_zero {z : List D} : repD 0 z = [] := Eq.trans rfl rfl
theorem repD_succ {n : Nat} {z : List D} : repD (n + 1) z = z ++ repD n z := by simp [repD, List.replicate_succ]
theorem fits_none {N : Nat} : fits N none = true := Eq.trans rfl rfl
theorem fits_some {N i : Nat} : fits N (some i) = decide (i < N) := Eq.trans rfl rfl

def dstAt : List Oper → Nat → Nat
  | [], _ => 0
  | o :: _, 0 => o.dst.getD 0
  | _ :: l, j + 1 => dstAt l j
def hasAt : List Oper → Nat → Bool
  | [], _ => false
  | o :: _, 0 => o.dst.isSome
  | _ :: l, j + 1 => hasAt l j
theorem dstAt_eq : ∀ (l : List Oper) (j : Nat), hasAt l j = true → (l[j]?).bind (·.dst) = some (dstAt l j)
  | [], j, h => by simp [hasAt] at h
  | o :: l, 0, h => by
    simp only [hasAt] at h
    simp only [List.getElem?_cons_zero, Option.bind_some, dstAt]
    cases hd : o.dst with
    | none => rw [hd] at h; cases h
    | some d => rfl
  | o :: l, j + 1, h => by simpa [dstAt] using dstAt_eq l j h
theorem dstAt_zero {d : Nat} {op : Op} {ty : Nat} {pos : String} {af : Array Edge} {gd : Option (Nat × Bool)} {l : List Oper} : dstAt (⟨some d, op, ty, pos, af, gd⟩ :: l) 0 = d := Eq.trans rfl rfl
theorem dstAt_succ {o : Oper} {l : List Oper} {j : Nat} : dstAt (o :: l) (j + 1) = dstAt l j := Eq.trans rfl rfl
theorem hasAt_zero {d : Nat} {op : Op} {ty : Nat} {pos : String} {af : Array Edge} {gd : Option (Nat × Bool)} {l : List Oper} : hasAt (⟨some d, op, ty, pos, af, gd⟩ :: l) 0 = true := Eq.trans rfl rfl
theorem hasAt_succ {o : Oper} {l : List Oper} {j : Nat} : hasAt (o :: l) (j + 1) = hasAt l j := Eq.trans rfl rfl

section
variable {dst : Option Nat} {ty : Nat} {pos : String} {af : Array Edge} {gd : Option (Nat × Bool)} {vs : Operand → D}
def nms (vs : Operand → D) : List Operand → List Nat
  | [] => []
  | x :: l => nm (vs x) ++ nms vs l
theorem nms_eq (vs : Operand → D) : ∀ l : List Operand, (l.flatMap fun x => nm (vs x)) = nms vs l
  | [] => Eq.trans rfl rfl
  | x :: l => by rw [List.flatMap_cons, nms_eq vs l]; exact Eq.trans rfl rfl
theorem nms_nil : nms vs [] = [] := Eq.trans rfl rfl
theorem nms_cons {x : Operand} {l : List Operand} : nms vs (x :: l) = nm (vs x) ++ nms vs l := Eq.trans rfl rfl
theorem touch_binOp {o : BinOp} {tt z : Nat} {x y : Operand} : touch ⟨dst, .binOp o tt x y z, ty, pos, af, gd⟩ vs = nms vs [x, y] ++ dst.toList := by rw [← nms_eq]; rfl
theorem touch_unOp {o : UnOp} {tt : Nat} {x : Operand} : touch ⟨dst, .unOp o tt x, ty, pos, af, gd⟩ vs = nms vs [x] ++ dst.toList := by rw [← nms_eq]; rfl
theorem touch_assign {x : Operand} : touch ⟨dst, .assign x, ty, pos, af, gd⟩ vs = nms vs [x] ++ dst.toList := by rw [← nms_eq]; rfl
theorem touch_makeFunc {f : Fn} {x y : Array Operand} : touch ⟨dst, .makeFunc f x y, ty, pos, af, gd⟩ vs = [] := rfl
theorem touch_load {tt : Nat} {x : Operand} : touch ⟨dst, .load tt x, ty, pos, af, gd⟩ vs = nms vs [x] ++ dst.toList := by rw [← nms_eq]; rfl
theorem touch_store {tt : Nat} {x y : Operand} : touch ⟨dst, .store tt x y, ty, pos, af, gd⟩ vs = nms vs [x, y] ++ dst.toList := by rw [← nms_eq]; rfl
theorem touch_nilCheck {x : Operand} : touch ⟨dst, .nilCheck x, ty, pos, af, gd⟩ vs = nms vs [x] ++ dst.toList := by rw [← nms_eq]; rfl
theorem touch_fieldAddr {tt i : Nat} {x : Operand} : touch ⟨dst, .fieldAddr tt x i, ty, pos, af, gd⟩ vs = nms vs [x] ++ dst.toList := by rw [← nms_eq]; rfl
theorem touch_field {tt i : Nat} {x : Operand} : touch ⟨dst, .field tt x i, ty, pos, af, gd⟩ vs = nms vs [x] ++ dst.toList := by rw [← nms_eq]; rfl
theorem touch_indexAddr {tt : Nat} {x i : Operand} : touch ⟨dst, .indexAddr tt x i, ty, pos, af, gd⟩ vs = nms vs [x, i] ++ dst.toList := by rw [← nms_eq]; rfl
theorem touch_index {tt : Nat} {x i : Operand} : touch ⟨dst, .index tt x i, ty, pos, af, gd⟩ vs = nms vs [x, i] ++ dst.toList := by rw [← nms_eq]; rfl
theorem touch_makeSlice {tt : Nat} {x y : Operand} : touch ⟨dst, .makeSlice tt x y, ty, pos, af, gd⟩ vs = nms vs [x, y] ++ dst.toList := by rw [← nms_eq]; rfl
theorem touch_alloc {tt : Nat} : touch ⟨dst, .alloc tt, ty, pos, af, gd⟩ vs = nms vs [] ++ dst.toList := by rw [← nms_eq]; rfl
theorem touch_box {tt : Nat} {x : Operand} : touch ⟨dst, .box tt x, ty, pos, af, gd⟩ vs = nms vs [x] ++ dst.toList := by rw [← nms_eq]; rfl
theorem touch_makeMap {tt : Nat} : touch ⟨dst, .makeMap tt none, ty, pos, af, gd⟩ vs = nms vs [] ++ dst.toList := by rw [← nms_eq]; rfl
theorem touch_lookup {tt : Nat} {m i : Operand} {ok : Bool} : touch ⟨dst, .lookup tt m i ok, ty, pos, af, gd⟩ vs = nms vs [m, i] ++ dst.toList := by rw [← nms_eq]; rfl
theorem touch_mapUpdate {tt : Nat} {m i x : Operand} : touch ⟨dst, .mapUpdate tt m i x, ty, pos, af, gd⟩ vs = nms vs [m, i, x] ++ dst.toList := by rw [← nms_eq]; rfl
theorem touch_insert {tt : Nat} {m i x : Operand} : touch ⟨dst, .insert tt m i x, ty, pos, af, gd⟩ vs = nms vs [m, i, x] ++ dst.toList := by rw [← nms_eq]; rfl
theorem touch_convert {a b : Nat} {x : Operand} : touch ⟨dst, .convert a b x, ty, pos, af, gd⟩ vs = nms vs [x] ++ dst.toList := by rw [← nms_eq]; rfl
theorem touch_extract {x : Operand} {i : Nat} : touch ⟨dst, .extract x i, ty, pos, af, gd⟩ vs = nms vs [x] ++ dst.toList := by rw [← nms_eq]; rfl
theorem touch_build {tt : Nat} {ps : List (Nat × Operand)} : touch ⟨dst, .build tt ps.toArray, ty, pos, af, gd⟩ vs = nms vs (ps.map (·.2)) ++ dst.toList := by rw [← nms_eq]; rfl
theorem touch_buildSlice {tt len : Nat} {ps : List (Nat × Operand)} : touch ⟨dst, .buildSlice tt len ps.toArray, ty, pos, af, gd⟩ vs = nms vs (ps.map (·.2)) ++ dst.toList := by rw [← nms_eq]; rfl
theorem touch_slice {tt : Nat} {x : Operand} {lo hi mx : Option Operand} : touch ⟨dst, .slice tt x lo hi mx, ty, pos, af, gd⟩ vs = nms vs (x :: (lo.toList ++ (hi.toList ++ mx.toList))) ++ dst.toList := by
  rw [← nms_eq]; cases lo <;> cases hi <;> cases mx <;> rfl
theorem touch_call {x : Operand} {l : List Operand} {tys : Array Nat} : touch ⟨dst, .call ⟨.value x, l.toArray, tys⟩, ty, pos, af, gd⟩ vs = nms vs (x :: l) ++ dst.toList := by
  rw [← nms_eq]; simp [touch, Op.operands, Call.operands]
theorem touch_builtin {x : Builtin} {l : List Operand} {tys : Array Nat} : touch ⟨dst, .call ⟨.builtin x, l.toArray, tys⟩, ty, pos, af, gd⟩ vs = nms vs l ++ dst.toList := by
  rw [← nms_eq]; simp [touch, Op.operands, Call.operands]
end

/-! The operations. -/
section
variable {T : Nat → Option Ty} {ty e : Nat} {dst : Option Nat} {h : Nat → Option Row}
theorem asg_int {k : IntKind} {n : Int} : effAssign T ty e dst h (.int k n) = some ⟨.int k n, []⟩ := Eq.trans rfl rfl
theorem asg_bool {b : Bool} : effAssign T ty e dst h (.bool b) = some ⟨.bool b, []⟩ := Eq.trans rfl rfl
theorem asg_str {b : ByteArray} : effAssign T ty e dst h (.str b) = some ⟨.str b, []⟩ := Eq.trans rfl rfl
theorem asg_sl {tg : Bool} {n : Nat} {xs : List D} : effAssign T ty e dst h (.sl false tg n xs) = some ⟨.sl false tg n xs, []⟩ := Eq.trans rfl rfl
theorem asg_ptr {x v o : Nat} : effAssign T ty e dst h (.ptr x v o) = some ⟨.ptr x v o, []⟩ := Eq.trans rfl rfl
theorem asg_ip {xs : List D} : effAssign T ty e dst h (.ip xs) = some ⟨.ip xs, []⟩ := Eq.trans rfl rfl
theorem asg_agg {xs : List D} : effAssign T ty e dst h (.agg xs) = some ⟨.agg xs, []⟩ := Eq.trans rfl rfl
theorem asg_tup {xs : List D} : effAssign T ty e dst h (.tup xs) = some ⟨.tup xs, []⟩ := Eq.trans rfl rfl
theorem asg_fn {f : Nat} : effAssign T ty e dst h (.fn f) = some ⟨.fn f, []⟩ := Eq.trans rfl rfl
theorem asg_mp {x v : Nat} : effAssign T ty e dst h (.mp x v) = some ⟨.mp x v, []⟩ := Eq.trans rfl rfl
theorem asg_mpc {ks : List Int} {vs : List D} : effAssign T ty e dst h (.mpc ks vs) = some ⟨.mpc ks vs, []⟩ := Eq.trans rfl rfl
theorem asg_pm {x v y : Nat} : effAssign T ty e dst h (.pm x v y) = some ⟨.pm x v y, []⟩ := Eq.trans rfl rfl
theorem asg_clo {f kk : Nat} {xs : List D} : effAssign T ty e dst h (.clo f kk xs) = some ⟨.clo f kk xs, []⟩ := Eq.trans rfl rfl
def asgQ (b : Bool) (T : Nat → Option Ty) (ty e d : Nat) (h : Nat → Option Row) (x : D) : Option Eff := if b then effAssign T ty e (some d) h x else effClean h x
theorem asgQ_true {d : Nat} {x : D} : asgQ true T ty e d h x = effAssign T ty e (some d) h x := Eq.trans rfl rfl
theorem asgQ_false {d : Nat} {x : D} : asgQ false T ty e d h x = effClean h x := Eq.trans rfl rfl
theorem asg_q {q : Nat → Bool} {d : Nat} {x : D} : effAsg T q ty e (some d) h x = asgQ (q d) T ty e d h x := Eq.trans rfl rfl
theorem acl_int {k : IntKind} {n : Int} : effClean h (.int k n) = some ⟨.int k n, []⟩ := Eq.trans rfl rfl
theorem acl_bool {b : Bool} : effClean h (.bool b) = some ⟨.bool b, []⟩ := Eq.trans rfl rfl
theorem acl_str {b : ByteArray} : effClean h (.str b) = some ⟨.str b, []⟩ := Eq.trans rfl rfl
theorem acl_agg {xs : List D} : effClean h (.agg xs) = some ⟨.agg (xs.map canon), []⟩ := Eq.trans rfl rfl
theorem acl_sl {a b : Bool} {n : Nat} {xs : List D} : effClean h (.sl a b n xs) = some ⟨.sl false false n xs, []⟩ := Eq.trans rfl rfl
theorem asg_und : effAssign T ty e dst h .und = some ⟨.und, []⟩ := Eq.trans rfl rfl
def asgB (e d y s o n : Nat) (r : Row) : Bool → Option Eff
  | true => some ⟨.buf y r.v s o n, []⟩
  | false => some ⟨.buf d e s o n, [(y, none), (d, some { r with v := e })]⟩
theorem asgB_false {d y s o n : Nat} {r : Row} : asgB e d y s o n r false = some ⟨.buf d e s o n, [(y, none), (d, some { r with v := e })]⟩ := Eq.trans rfl rfl
def asgL (e : Nat) (dst : Option Nat) (y s o n : Nat) : Option Row → Option Eff
  | some r => match dst with | some d => asgB e d y s o n r r.fz | none => some ⟨.und, []⟩
  | none => some ⟨.und, []⟩
theorem asgL_some {d y s o n : Nat} {r : Row} : asgL e (some d) y s o n (some r) = asgB e d y s o n r r.fz := Eq.trans rfl rfl
theorem asg_buf {d y v s o n : Nat} : effAssign T ty e (some d) h (.buf y v s o n) = asgL e (some d) y s o n (live h y v) := by
  simp only [effAssign]
  cases hl : live h y v with
  | none => rfl
  | some r =>
    obtain ⟨_, hv⟩ := live_some hl
    simp only [asgL]
    cases hz : r.fz <;> simp [asgB, hv, hz]
def asgN (e : Nat) (dst : Option Nat) (T : Nat → Option Ty) : Option Ty → Option Eff
  | some τ =>
    match dst with
    | some d => match τ.ds with
      | .slice el => match T el with | some φ => some ⟨.buf d e φ.size 0 0, [(d, some ⟨e, el, [], false, true, false⟩)]⟩ | none => none
      | _ => none
    | none => none
  | none => none
theorem asgN_some {d el b c : Nat} {z : List Value} {q : Bool} {φ : Ty} (hφ : T el = some φ) : asgN e (some d) T (some ⟨.slice el, b, c, z, q⟩) = some ⟨.buf d e φ.size 0 0, [(d, some ⟨e, el, [], false, true, false⟩)]⟩ := by simp only [asgN, hφ]
theorem asg_nil : effAssign T ty e dst h (.sl true true 0 []) = asgN e dst T (T ty) := by
  unfold effAssign asgN
  cases dst <;> cases T ty <;> rfl
end

def okD (x : Option D) : Option Eff := match x with | some d => some ⟨d, []⟩ | none => none
theorem okD_some (d : D) : okD (some d) = some ⟨d, []⟩ := Eq.trans rfl rfl
def onT (x : Option Ty) (f : Ty → Option Eff) : Option Eff := match x with | some τ => f τ | none => none
theorem onT_some (τ : Ty) (f : Ty → Option Eff) : onT (some τ) f = f τ := Eq.trans rfl rfl
def boxE (x : Option (List D × List Nat)) (h : Nat → Option Row) (ty d e : Nat) : Option Eff :=
  match x with
  | some (cs, fr) => if fr.contains d = false then some ⟨.ptr d e 0, frz h fr ++ [(d, some ⟨e, ty, cs, false, false, false⟩)]⟩ else none
  | none => none
theorem boxE_some (cs : List D) (fr : List Nat) (h : Nat → Option Row) (ty d e : Nat) : boxE (some (cs, fr)) h ty d e = if fr.contains d = false then some ⟨.ptr d e 0, frz h fr ++ [(d, some ⟨e, ty, cs, false, false, false⟩)]⟩ else none := Eq.trans rfl rfl
def ptrH (d e : Nat) : Option Nat → D
  | some y => .pm d e y
  | none => .ptr d e 0
theorem ptrH_some {d e y : Nat} : ptrH d e (some y) = .pm d e y := Eq.trans rfl rfl
theorem ptrH_none {d e : Nat} : ptrH d e none = .ptr d e 0 := Eq.trans rfl rfl
def allocE (x : Option Ty) (ty d e : Nat) (y : Option Nat) : Option Eff :=
  match x with
  | some τ => if (τ.zero.map ofV).all plainC then some ⟨ptrH d e y, [(d, some ⟨e, ty, τ.zero.map ofV, false, false, false⟩)]⟩ else none
  | none => none
theorem allocE_some (τ : Ty) (ty d e : Nat) (y : Option Nat) : allocE (some τ) ty d e y = if (τ.zero.map ofV).all plainC then some ⟨ptrH d e y, [(d, some ⟨e, ty, τ.zero.map ofV, false, false, false⟩)]⟩ else none := Eq.trans rfl rfl
def mkmE (T : Nat → Option Ty) (x : Option Ty) (ty e d : Nat) : Option Eff := match x with | some τ => effMakeMap T ty τ e d | none => none
def mapY (T : Nat → Option Ty) (k el : Nat) : Option Ty :=
  match T k, T el with
  | some κ, some φ => match κ.ds with | .int .i64 => some φ | _ => none
  | _, _ => none
theorem mapY_some {T : Nat → Option Ty} {k el b c : Nat} {z : List Value} {q : Bool} {φ : Ty} (hk : T k = some ⟨.int .i64, b, c, z, q⟩) (hφ : T el = some φ) : mapY T k el = some φ := by simp only [mapY, hk, hφ]
theorem mapTy_map {T : Nat → Option Ty} {k el b c : Nat} {z : List Value} {q : Bool} : mapTy T ⟨.map k el, b, c, z, q⟩ = mapY T k el := Eq.trans rfl rfl
theorem mkm_some {T : Nat → Option Ty} {τ φ : Ty} {ty e d : Nat} (hm : mapTy T τ = some φ) : mkmE T (some τ) ty e d = some ⟨.mp d e, [(d, some ⟨e, ty, [.mpc [] []], false, true, true⟩)]⟩ := by simp only [mkmE, effMakeMap, hm]
def convE (x y : Option Ty) (d : D) : Option Eff :=
  match x, y, d with
  | some τ, some _, .int _ n => (match τ.ds with | .int k => some ⟨.int k (k.wrap n), []⟩ | _ => none)
  | _, _, _ => none
theorem convE_int (k : IntKind) (b c : Nat) (z : List Value) (q : Bool) (σ : Ty) (k' : IntKind) (n : Int) : convE (some ⟨.int k, b, c, z, q⟩) (some σ) (.int k' n) = some ⟨.int k (k.wrap n), []⟩ := Eq.trans rfl rfl
def extE (d : D) (i : Nat) : Option Eff := match d with | .tup xs => (match xs[i]? with | some d => some ⟨d, []⟩ | none => none) | _ => none
theorem extE_tup (xs : List D) (i : Nat) : extE (.tup xs) i = okD xs[i]? := by simp only [extE, okD]

section
variable {T : Nat → Option Ty} {Γ : Env} {N F e : Nat} {ws : List W} {Q : Kt} {t : Nat → D} {h : Nat → Option Row}

theorem runW_nil {x : Ex} : runW T Γ N F [] Q x t h e = Q x t h e := Eq.trans rfl rfl
theorem runW_skip : runW T Γ N F (.code .skip :: ws) Q .normal t h e = runW T Γ N F ws Q .normal t h e := Eq.trans rfl rfl
theorem runW_seq {a b : Code} : runW T Γ N F (.code (.seq a b) :: ws) Q .normal t h e = runW T Γ N F (.code a :: .code b :: ws) Q .normal t h e := Eq.trans rfl rfl
theorem runW_ret : runW T Γ N F (.code .ret :: ws) Q .normal t h e = runW T Γ N F ws Q .ret t h e := Eq.trans rfl rfl
theorem runW_exit {id : Nat} : runW T Γ N F (.code (.exit id) :: ws) Q .normal t h e = runW T Γ N F ws Q (.exit id) t h e := Eq.trans rfl rfl
theorem runW_block {id : Nat} {b : Code} : runW T Γ N F (.code (.block id b) :: ws) Q .normal t h e = runW T Γ N F (.code b :: .blk id :: ws) Q .normal t h e := Eq.trans rfl rfl
theorem runW_loop {b : Code} : runW T Γ N F (.code (.loop b) :: ws) Q .normal t h e = runLoop T Γ N F b ws Q t h e := Eq.trans rfl rfl
theorem runW_pass_ret {c : Code} : runW T Γ N F (.code c :: ws) Q .ret t h e = runW T Γ N F ws Q .ret t h e := Eq.trans rfl rfl
theorem runW_pass_exit {c : Code} {n : Nat} : runW T Γ N F (.code c :: ws) Q (.exit n) t h e = runW T Γ N F ws Q (.exit n) t h e := Eq.trans rfl rfl
theorem runW_blk_normal {id : Nat} : runW T Γ N F (.blk id :: ws) Q .normal t h e = runW T Γ N F ws Q .normal t h e := Eq.trans rfl rfl
theorem runW_blk_ret {id : Nat} : runW T Γ N F (.blk id :: ws) Q .ret t h e = runW T Γ N F ws Q .ret t h e := Eq.trans rfl rfl
theorem runW_blk_exit {id n : Nat} : runW T Γ N F (.blk id :: ws) Q (.exit n) t h e = if n = id then runW T Γ N F ws Q .normal t h e else runW T Γ N F ws Q (.exit n) t h e := Eq.trans rfl rfl
theorem runW_region {i : Nat} {ops : List Oper} : runW T Γ N F (.code (.region i ops.toArray false) :: ws) Q .normal t h e = runO T Γ N F ops ops ws Q t h e := Eq.trans rfl rfl
theorem runW_drawn {i : Nat} {ops : List Oper} : runW T Γ N F (.code (.region i ops.toArray true) :: ws) Q .normal t h e = runP T Γ N F ops ops ws Q t h e [] := Eq.trans rfl rfl

theorem runW_cond {g : Nat} {x y : Code} : runW T Γ N F (.code (.cond (.tmp g) x y) :: ws) Q .normal t h e = tstC T Γ N F (t g) g x y ws Q t h e := Eq.trans rfl rfl
theorem runW_condT {x y : Code} : runW T Γ N F (.code (.cond (.const (.bool true)) x y) :: ws) Q .normal t h e = runW T Γ N F (.code x :: ws) Q .normal t h e := Eq.trans rfl rfl
theorem runW_condF {x y : Code} : runW T Γ N F (.code (.cond (.const (.bool false)) x y) :: ws) Q .normal t h e = runW T Γ N F (.code y :: ws) Q .normal t h e := Eq.trans rfl rfl
theorem tstC_true {g : Nat} {x y : Code} (hg : t g = .bool true) : tstC T Γ N F (.bool true) g x y ws Q t h e = runW T Γ N F (.code x :: ws) Q .normal t h e := wpD_true hg
theorem tstC_false {g : Nat} {x y : Code} (hg : t g = .bool false) : tstC T Γ N F (.bool false) g x y ws Q t h e = runW T Γ N F (.code y :: ws) Q .normal t h e := wpD_false hg
theorem tstC_bool {b : Bool} {g : Nat} {x y : Code} : tstC T Γ N F (.bool b) g x y ws Q t h e = br b (runW T Γ N F (.code x :: ws) Q .normal (upd t g (.bool true)) h e) (runW T Γ N F (.code y :: ws) Q .normal (upd t g (.bool false)) h e) := by
  unfold tstC; rw [wpD_bool]; cases b <;> simp [br]

variable {ops l : List Oper} {dst : Option Nat} {op : Op} {ty : Nat} {pos : String} {af : Array Edge} {gd : Option (Nat × Bool)} {fs : List Foot}
theorem runO_nil : runO T Γ N F ops [] ws Q t h e = runW T Γ N F ws Q .normal t h (e + 1) := Eq.trans rfl rfl
theorem runO_cons (hf : fits N dst = true) : runO T Γ N F ops (⟨dst, op, ty, pos, af, none⟩ :: l) ws Q t h e = doO T Γ N F ⟨dst, op, ty, pos, af, none⟩ ops l ws Q t h e := by
  simp only [runO, runU, wpG, hf, true_and, doO]
theorem runO_guard {j : Nat} {want : Bool} (hf : fits N dst = true) (hj : hasAt ops j = true) : runO T Γ N F ops (⟨dst, op, ty, pos, af, some (j, want)⟩ :: l) ws Q t h e = tstO T Γ N F (t (dstAt ops j)) (dstAt ops j) want ⟨dst, op, ty, pos, af, none⟩ ops l ws Q t h e := by
  simp only [runO, runU, wpG, hf, true_and, dstAt_eq ops j hj, obind_some, tstO]
  cases want <;> rfl
theorem tstO_skp {g : Nat} {want : Bool} {o : Oper} : tstO T Γ N F .skp g want o ops l ws Q t h e = runO T Γ N F ops l ws Q (putT t o.dst .skp) h e := Eq.trans rfl rfl
theorem tstO_true {g : Nat} {o : Oper} (hg : t g = .bool true) : tstO T Γ N F (.bool true) g true o ops l ws Q t h e = doO T Γ N F o ops l ws Q t h e := (wpS_true hg).trans (if_pos rfl)
theorem tstO_false {g : Nat} {o : Oper} (hg : t g = .bool false) : tstO T Γ N F (.bool false) g true o ops l ws Q t h e = runO T Γ N F ops l ws Q (putT t o.dst .skp) h e := (wpS_false hg).trans (if_pos rfl)
theorem tstO_true' {g : Nat} {o : Oper} (hg : t g = .bool true) : tstO T Γ N F (.bool true) g false o ops l ws Q t h e = runO T Γ N F ops l ws Q (putT t o.dst .skp) h e := (wpS_true hg).trans (if_neg (by decide))
theorem tstO_false' {g : Nat} {o : Oper} (hg : t g = .bool false) : tstO T Γ N F (.bool false) g false o ops l ws Q t h e = doO T Γ N F o ops l ws Q t h e := (wpS_false hg).trans (if_neg (by decide))
theorem tstO_bool {b : Bool} {g : Nat} {o : Oper} : tstO T Γ N F (.bool b) g true o ops l ws Q t h e = br b (doO T Γ N F o ops l ws Q (upd t g (.bool true)) h e) (runO T Γ N F ops l ws Q (putT (upd t g (.bool false)) o.dst .skp) h e) := by
  unfold tstO; rw [wpS_bool]; cases b <;> simp [br]
theorem tstO_bool' {b : Bool} {g : Nat} {o : Oper} : tstO T Γ N F (.bool b) g false o ops l ws Q t h e = br b (runO T Γ N F ops l ws Q (putT (upd t g (.bool true)) o.dst .skp) h e) (doO T Γ N F o ops l ws Q (upd t g (.bool false)) h e) := by
  unfold tstO; rw [wpS_bool]; cases b <;> simp [br]

theorem runP_nil : runP T Γ N F ops [] ws Q t h e fs = (dynOk ops.toArray fs = true ∧ runW T Γ N F ws Q .normal t h (e + 1)) := Eq.trans rfl rfl
theorem runP_cons (hf : fits N dst = true) : runP T Γ N F ops (⟨dst, op, ty, pos, af, none⟩ :: l) ws Q t h e fs = doP T Γ N F ⟨dst, op, ty, pos, af, none⟩ ops l ws Q t h e fs := by
  simp only [runP, runK, wpG, hf, true_and, doP]
theorem runP_guard {j : Nat} {want : Bool} (hf : fits N dst = true) (hj : hasAt ops j = true) : runP T Γ N F ops (⟨dst, op, ty, pos, af, some (j, want)⟩ :: l) ws Q t h e fs = tstP T Γ N F (t (dstAt ops j)) (dstAt ops j) want ⟨dst, op, ty, pos, af, none⟩ ops l ws Q t h e fs := by
  simp only [runP, runK, wpG, hf, true_and, dstAt_eq ops j hj, obind_some, tstP]
  cases want <;> rfl
theorem tstP_skp {g : Nat} {want : Bool} {o : Oper} : tstP T Γ N F .skp g want o ops l ws Q t h e fs = runP T Γ N F ops l ws Q (putT t o.dst .skp) h e (fs ++ [⟨[], true⟩]) := Eq.trans rfl rfl
theorem tstP_true {g : Nat} {o : Oper} (hg : t g = .bool true) : tstP T Γ N F (.bool true) g true o ops l ws Q t h e fs = doP T Γ N F o ops l ws Q t h e fs := (wpS_true hg).trans (if_pos rfl)
theorem tstP_false {g : Nat} {o : Oper} (hg : t g = .bool false) : tstP T Γ N F (.bool false) g true o ops l ws Q t h e fs = runP T Γ N F ops l ws Q (putT t o.dst .skp) h e (fs ++ [⟨[], true⟩]) := (wpS_false hg).trans (if_pos rfl)
theorem tstP_true' {g : Nat} {o : Oper} (hg : t g = .bool true) : tstP T Γ N F (.bool true) g false o ops l ws Q t h e fs = runP T Γ N F ops l ws Q (putT t o.dst .skp) h e (fs ++ [⟨[], true⟩]) := (wpS_true hg).trans (if_neg (by decide))
theorem tstP_false' {g : Nat} {o : Oper} (hg : t g = .bool false) : tstP T Γ N F (.bool false) g false o ops l ws Q t h e fs = doP T Γ N F o ops l ws Q t h e fs := (wpS_false hg).trans (if_neg (by decide))
theorem tstP_bool {b : Bool} {g : Nat} {o : Oper} : tstP T Γ N F (.bool b) g true o ops l ws Q t h e fs = br b (doP T Γ N F o ops l ws Q (upd t g (.bool true)) h e fs) (runP T Γ N F ops l ws Q (putT (upd t g (.bool false)) o.dst .skp) h e (fs ++ [⟨[], true⟩])) := by
  unfold tstP; rw [wpS_bool]; cases b <;> simp [br]
theorem tstP_bool' {b : Bool} {g : Nat} {o : Oper} : tstP T Γ N F (.bool b) g false o ops l ws Q t h e fs = br b (runP T Γ N F ops l ws Q (putT (upd t g (.bool true)) o.dst .skp) h e (fs ++ [⟨[], true⟩])) (doP T Γ N F o ops l ws Q (upd t g (.bool false)) h e fs) := by
  unfold tstP; rw [wpS_bool]; cases b <;> simp [br]

theorem stE_some {d : D} {hw : List (Nat × Option Row)} : stE T Γ N F (some ⟨d, hw⟩) dst ops l ws Q t h e = runO T Γ N F ops l ws Q (putT t dst d) (applyH h hw) e := Eq.trans rfl rfl
theorem stP_some {d : D} {hw : List (Nat × Option Row)} {ft : List Nat} : stP T Γ N F (some ⟨d, hw⟩) dst ft ops l ws Q t h e fs = runP T Γ N F ops l ws Q (putT t dst d) (applyH h hw) e (fs ++ [⟨ft, hw.isEmpty⟩]) := Eq.trans rfl rfl
theorem stE_ite {c : Prop} [Decidable c] {E : Eff} : stE T Γ N F (if c then some E else none) dst ops l ws Q t h e = (c ∧ stE T Γ N F (some E) dst ops l ws Q t h e) := by
  by_cases hc : c <;> simp [hc, stE, obind]
theorem stP_ite {c : Prop} [Decidable c] {E : Eff} {ft : List Nat} : stP T Γ N F (if c then some E else none) dst ft ops l ws Q t h e fs = (c ∧ stP T Γ N F (some E) dst ft ops l ws Q t h e fs) := by
  by_cases hc : c <;> simp [hc, stP, obind]

theorem pickO_true {g : Nat} {a b : Operand} (hg : t g = .bool true) : pickO T Γ N F (.bool true) g a b dst ops l ws Q t h e = runO T Γ N F ops l ws Q (putT t dst (ev t a)) h e := wpD_true hg
theorem pickO_false {g : Nat} {a b : Operand} (hg : t g = .bool false) : pickO T Γ N F (.bool false) g a b dst ops l ws Q t h e = runO T Γ N F ops l ws Q (putT t dst (ev t b)) h e := wpD_false hg
theorem pickO_bool {c : Bool} {g : Nat} {a b : Operand} : pickO T Γ N F (.bool c) g a b dst ops l ws Q t h e = br c (runO T Γ N F ops l ws Q (putT (upd t g (.bool true)) dst (ev (upd t g (.bool true)) a)) h e) (runO T Γ N F ops l ws Q (putT (upd t g (.bool false)) dst (ev (upd t g (.bool false)) b)) h e) := by
  unfold pickO; rw [wpD_bool]; cases c <;> simp [br]
theorem pickP_true {g : Nat} {a b : Operand} (hg : t g = .bool true) : pickP T Γ N F (.bool true) g a b dst ops l ws Q t h e fs = runP T Γ N F ops l ws Q (putT t dst (ev t a)) h e (fs ++ [⟨[], true⟩]) := wpD_true hg
theorem pickP_false {g : Nat} {a b : Operand} (hg : t g = .bool false) : pickP T Γ N F (.bool false) g a b dst ops l ws Q t h e fs = runP T Γ N F ops l ws Q (putT t dst (ev t b)) h e (fs ++ [⟨[], true⟩]) := wpD_false hg
theorem pickP_bool {c : Bool} {g : Nat} {a b : Operand} : pickP T Γ N F (.bool c) g a b dst ops l ws Q t h e fs = br c (runP T Γ N F ops l ws Q (putT (upd t g (.bool true)) dst (ev (upd t g (.bool true)) a)) h e (fs ++ [⟨[], true⟩])) (runP T Γ N F ops l ws Q (putT (upd t g (.bool false)) dst (ev (upd t g (.bool false)) b)) h e (fs ++ [⟨[], true⟩])) := by
  unfold pickP; rw [wpD_bool]; cases c <;> simp [br]

theorem doO_pick {c : Nat} {a b : Operand} : doO T Γ N F ⟨dst, .pick (.tmp c) a b, ty, pos, af, gd⟩ ops l ws Q t h e = pickO T Γ N F (t c) c a b dst ops l ws Q t h e := Eq.trans rfl rfl
theorem doP_pick {c : Nat} {a b : Operand} : doP T Γ N F ⟨dst, .pick (.tmp c) a b, ty, pos, af, gd⟩ ops l ws Q t h e fs = pickP T Γ N F (t c) c a b dst ops l ws Q t h e fs := Eq.trans rfl rfl
theorem doO_move {x : Operand} : doO T Γ N F ⟨dst, .move x, ty, pos, af, gd⟩ ops l ws Q t h e = runO T Γ N F ops l ws Q (putT t dst (ev t x)) h e := Eq.trans rfl rfl
theorem doP_move {x : Operand} : doP T Γ N F ⟨dst, .move x, ty, pos, af, gd⟩ ops l ws Q t h e fs = runP T Γ N F ops l ws Q (putT t dst (ev t x)) h e (fs ++ [⟨[], true⟩]) := Eq.trans rfl rfl
theorem doO_eff {x : Option Eff} (hp : ∀ c a b, op ≠ .pick c a b) (hx : eff T Γ e ⟨dst, op, ty, pos, af, gd⟩ (ev t) h = x) : doO T Γ N F ⟨dst, op, ty, pos, af, gd⟩ ops l ws Q t h e = stE T Γ N F x dst ops l ws Q t h e := by
  subst hx
  unfold doO stE wpE
  cases op <;> first | rfl | exact absurd rfl (hp _ _ _)
theorem doP_eff {x : Option Eff} (hp : ∀ c a b, op ≠ .pick c a b) (hx : eff T Γ e ⟨dst, op, ty, pos, af, gd⟩ (ev t) h = x) : doP T Γ N F ⟨dst, op, ty, pos, af, gd⟩ ops l ws Q t h e fs = stP T Γ N F x dst (touch ⟨dst, op, ty, pos, af, gd⟩ (ev t)) ops l ws Q t h e fs := by
  subst hx
  unfold doP stP wpE
  cases op <;> first | rfl | exact absurd rfl (hp _ _ _)
theorem doO_binOp {o : BinOp} {tt z : Nat} {x y : Operand} : doO T Γ N F ⟨dst, .binOp o tt x y z, ty, pos, af, gd⟩ ops l ws Q t h e = stE T Γ N F (okD (binD T tt o (ev t x) (ev t y))) dst ops l ws Q t h e := doO_eff (fun _ _ _ hh => by cases hh) (by simp only [eff]; first | rfl | (cases binD T tt o (ev t x) (ev t y) <;> rfl))
theorem doP_binOp {o : BinOp} {tt z : Nat} {x y : Operand} : doP T Γ N F ⟨dst, .binOp o tt x y z, ty, pos, af, gd⟩ ops l ws Q t h e fs = stP T Γ N F (okD (binD T tt o (ev t x) (ev t y))) dst (touch ⟨dst, .binOp o tt x y z, ty, pos, af, gd⟩ (ev t)) ops l ws Q t h e fs := doP_eff (fun _ _ _ hh => by cases hh) (by simp only [eff]; first | rfl | (cases binD T tt o (ev t x) (ev t y) <;> rfl))
theorem doO_unOp {o : UnOp} {tt : Nat} {x : Operand} : doO T Γ N F ⟨dst, .unOp o tt x, ty, pos, af, gd⟩ ops l ws Q t h e = stE T Γ N F (okD (unD o (ev t x))) dst ops l ws Q t h e := doO_eff (fun _ _ _ hh => by cases hh) (by simp only [eff]; first | rfl | (cases unD o (ev t x) <;> rfl))
theorem doP_unOp {o : UnOp} {tt : Nat} {x : Operand} : doP T Γ N F ⟨dst, .unOp o tt x, ty, pos, af, gd⟩ ops l ws Q t h e fs = stP T Γ N F (okD (unD o (ev t x))) dst (touch ⟨dst, .unOp o tt x, ty, pos, af, gd⟩ (ev t)) ops l ws Q t h e fs := doP_eff (fun _ _ _ hh => by cases hh) (by simp only [eff]; first | rfl | (cases unD o (ev t x) <;> rfl))
theorem doO_assign {x : Operand} : doO T Γ N F ⟨dst, .assign x, ty, pos, af, gd⟩ ops l ws Q t h e = stE T Γ N F (effAsg T Γ.own ty e dst h (ev t x)) dst ops l ws Q t h e := doO_eff (fun _ _ _ hh => by cases hh) rfl
theorem doP_assign {x : Operand} : doP T Γ N F ⟨dst, .assign x, ty, pos, af, gd⟩ ops l ws Q t h e fs = stP T Γ N F (effAsg T Γ.own ty e dst h (ev t x)) dst (touch ⟨dst, .assign x, ty, pos, af, gd⟩ (ev t)) ops l ws Q t h e fs := doP_eff (fun _ _ _ hh => by cases hh) rfl
theorem doO_makeFunc {f : Nat} {first caps : List Operand} : doO T Γ N F ⟨dst, .makeFunc (.func f) first.toArray caps.toArray, ty, pos, af, gd⟩ ops l ws Q t h e = stE T Γ N F (if (first.map (ev t) ++ caps.map (ev t)).all okCap then some ⟨.clo f first.length (first.map (ev t) ++ caps.map (ev t)), []⟩ else none) dst ops l ws Q t h e := doO_eff (fun _ _ _ hh => by cases hh) rfl
theorem doP_makeFunc {f : Nat} {first caps : List Operand} : doP T Γ N F ⟨dst, .makeFunc (.func f) first.toArray caps.toArray, ty, pos, af, gd⟩ ops l ws Q t h e fs = stP T Γ N F (if (first.map (ev t) ++ caps.map (ev t)).all okCap then some ⟨.clo f first.length (first.map (ev t) ++ caps.map (ev t)), []⟩ else none) dst (touch ⟨dst, .makeFunc (.func f) first.toArray caps.toArray, ty, pos, af, gd⟩ (ev t)) ops l ws Q t h e fs := doP_eff (fun _ _ _ hh => by cases hh) rfl
theorem doO_load {tt : Nat} {x : Operand} : doO T Γ N F ⟨dst, .load tt x, ty, pos, af, gd⟩ ops l ws Q t h e = stE T Γ N F (onT (T tt) fun τ => effLd τ h (ev t x)) dst ops l ws Q t h e := doO_eff (fun _ _ _ hh => by cases hh) (by simp only [eff]; first | rfl | (cases T tt <;> rfl))
theorem doP_load {tt : Nat} {x : Operand} : doP T Γ N F ⟨dst, .load tt x, ty, pos, af, gd⟩ ops l ws Q t h e fs = stP T Γ N F (onT (T tt) fun τ => effLd τ h (ev t x)) dst (touch ⟨dst, .load tt x, ty, pos, af, gd⟩ (ev t)) ops l ws Q t h e fs := doP_eff (fun _ _ _ hh => by cases hh) (by simp only [eff]; first | rfl | (cases T tt <;> rfl))
theorem doO_store {tt : Nat} {x y : Operand} : doO T Γ N F ⟨dst, .store tt x y, ty, pos, af, gd⟩ ops l ws Q t h e = stE T Γ N F (onT (T tt) fun τ => effSto τ h (ev t x) (ev t y)) dst ops l ws Q t h e := doO_eff (fun _ _ _ hh => by cases hh) (by simp only [eff]; first | rfl | (cases T tt <;> rfl))
theorem doP_store {tt : Nat} {x y : Operand} : doP T Γ N F ⟨dst, .store tt x y, ty, pos, af, gd⟩ ops l ws Q t h e fs = stP T Γ N F (onT (T tt) fun τ => effSto τ h (ev t x) (ev t y)) dst (touch ⟨dst, .store tt x y, ty, pos, af, gd⟩ (ev t)) ops l ws Q t h e fs := doP_eff (fun _ _ _ hh => by cases hh) (by simp only [eff]; first | rfl | (cases T tt <;> rfl))
theorem doO_nilCheck {x : Operand} : doO T Γ N F ⟨dst, .nilCheck x, ty, pos, af, gd⟩ ops l ws Q t h e = stE T Γ N F (effNil h (ev t x)) dst ops l ws Q t h e := doO_eff (fun _ _ _ hh => by cases hh) rfl
theorem doP_nilCheck {x : Operand} : doP T Γ N F ⟨dst, .nilCheck x, ty, pos, af, gd⟩ ops l ws Q t h e fs = stP T Γ N F (effNil h (ev t x)) dst (touch ⟨dst, .nilCheck x, ty, pos, af, gd⟩ (ev t)) ops l ws Q t h e fs := doP_eff (fun _ _ _ hh => by cases hh) rfl
theorem doO_fieldAddr {tt i : Nat} {x : Operand} : doO T Γ N F ⟨dst, .fieldAddr tt x i, ty, pos, af, gd⟩ ops l ws Q t h e = stE T Γ N F (onT (T tt) fun τ => effField T τ h i (ev t x)) dst ops l ws Q t h e := doO_eff (fun _ _ _ hh => by cases hh) (by simp only [eff]; first | rfl | (cases T tt <;> rfl))
theorem doP_fieldAddr {tt i : Nat} {x : Operand} : doP T Γ N F ⟨dst, .fieldAddr tt x i, ty, pos, af, gd⟩ ops l ws Q t h e fs = stP T Γ N F (onT (T tt) fun τ => effField T τ h i (ev t x)) dst (touch ⟨dst, .fieldAddr tt x i, ty, pos, af, gd⟩ (ev t)) ops l ws Q t h e fs := doP_eff (fun _ _ _ hh => by cases hh) (by simp only [eff]; first | rfl | (cases T tt <;> rfl))
theorem doO_field {tt i : Nat} {x : Operand} : doO T Γ N F ⟨dst, .field tt x i, ty, pos, af, gd⟩ ops l ws Q t h e = stE T Γ N F (onT (T tt) fun τ => effPart T τ i (ev t x)) dst ops l ws Q t h e := doO_eff (fun _ _ _ hh => by cases hh) (by simp only [eff]; first | rfl | (cases T tt <;> rfl))
theorem doP_field {tt i : Nat} {x : Operand} : doP T Γ N F ⟨dst, .field tt x i, ty, pos, af, gd⟩ ops l ws Q t h e fs = stP T Γ N F (onT (T tt) fun τ => effPart T τ i (ev t x)) dst (touch ⟨dst, .field tt x i, ty, pos, af, gd⟩ (ev t)) ops l ws Q t h e fs := doP_eff (fun _ _ _ hh => by cases hh) (by simp only [eff]; first | rfl | (cases T tt <;> rfl))
theorem doO_indexAddr {tt : Nat} {x i : Operand} : doO T Γ N F ⟨dst, .indexAddr tt x i, ty, pos, af, gd⟩ ops l ws Q t h e = stE T Γ N F (onT (T tt) fun τ => effIndexAddr T τ h (ev t x) (ev t i)) dst ops l ws Q t h e := doO_eff (fun _ _ _ hh => by cases hh) (by simp only [eff]; first | rfl | (cases T tt <;> rfl))
theorem doP_indexAddr {tt : Nat} {x i : Operand} : doP T Γ N F ⟨dst, .indexAddr tt x i, ty, pos, af, gd⟩ ops l ws Q t h e fs = stP T Γ N F (onT (T tt) fun τ => effIndexAddr T τ h (ev t x) (ev t i)) dst (touch ⟨dst, .indexAddr tt x i, ty, pos, af, gd⟩ (ev t)) ops l ws Q t h e fs := doP_eff (fun _ _ _ hh => by cases hh) (by simp only [eff]; first | rfl | (cases T tt <;> rfl))
theorem doO_index {tt : Nat} {x i : Operand} : doO T Γ N F ⟨dst, .index tt x i, ty, pos, af, gd⟩ ops l ws Q t h e = stE T Γ N F (onT (T tt) fun τ => effIndex T τ (ev t x) (ev t i)) dst ops l ws Q t h e := doO_eff (fun _ _ _ hh => by cases hh) (by simp only [eff]; first | rfl | (cases T tt <;> rfl))
theorem doP_index {tt : Nat} {x i : Operand} : doP T Γ N F ⟨dst, .index tt x i, ty, pos, af, gd⟩ ops l ws Q t h e fs = stP T Γ N F (onT (T tt) fun τ => effIndex T τ (ev t x) (ev t i)) dst (touch ⟨dst, .index tt x i, ty, pos, af, gd⟩ (ev t)) ops l ws Q t h e fs := doP_eff (fun _ _ _ hh => by cases hh) (by simp only [eff]; first | rfl | (cases T tt <;> rfl))
theorem doO_slice {tt : Nat} {x : Operand} {lo hi mx : Option Operand} : doO T Γ N F ⟨dst, .slice tt x lo hi mx, ty, pos, af, gd⟩ ops l ws Q t h e = stE T Γ N F (onT (T tt) fun τ => effSlice T τ h (ev t x) (lo.map (ev t)) (hi.map (ev t)) (mx.map (ev t))) dst ops l ws Q t h e := doO_eff (fun _ _ _ hh => by cases hh) (by simp only [eff]; first | rfl | (cases T tt <;> rfl))
theorem doP_slice {tt : Nat} {x : Operand} {lo hi mx : Option Operand} : doP T Γ N F ⟨dst, .slice tt x lo hi mx, ty, pos, af, gd⟩ ops l ws Q t h e fs = stP T Γ N F (onT (T tt) fun τ => effSlice T τ h (ev t x) (lo.map (ev t)) (hi.map (ev t)) (mx.map (ev t))) dst (touch ⟨dst, .slice tt x lo hi mx, ty, pos, af, gd⟩ (ev t)) ops l ws Q t h e fs := doP_eff (fun _ _ _ hh => by cases hh) (by simp only [eff]; first | rfl | (cases T tt <;> rfl))
theorem doO_build {tt : Nat} {ps : List (Nat × Operand)} : doO T Γ N F ⟨dst, .build tt ps.toArray, ty, pos, af, gd⟩ ops l ws Q t h e = stE T Γ N F (onT (T tt) fun τ => effBld Γ.own T τ h dst (ps.map fun p => (p.1, ev t p.2))) dst ops l ws Q t h e := doO_eff (fun _ _ _ hh => by cases hh) (by simp only [eff]; first | rfl | (cases T tt <;> rfl))
theorem doP_build {tt : Nat} {ps : List (Nat × Operand)} : doP T Γ N F ⟨dst, .build tt ps.toArray, ty, pos, af, gd⟩ ops l ws Q t h e fs = stP T Γ N F (onT (T tt) fun τ => effBld Γ.own T τ h dst (ps.map fun p => (p.1, ev t p.2))) dst (touch ⟨dst, .build tt ps.toArray, ty, pos, af, gd⟩ (ev t)) ops l ws Q t h e fs := doP_eff (fun _ _ _ hh => by cases hh) (by simp only [eff]; first | rfl | (cases T tt <;> rfl))
theorem doO_buildSlice {tt len d : Nat} {ps : List (Nat × Operand)} : doO T Γ N F ⟨some d, .buildSlice tt len ps.toArray, ty, pos, af, gd⟩ ops l ws Q t h e = stE T Γ N F (onT (T tt) fun τ => effBuildSlice T τ h e d len (ps.map fun p => (p.1, ev t p.2))) (some d) ops l ws Q t h e := doO_eff (fun _ _ _ hh => by cases hh) (by simp only [eff]; first | rfl | (cases T tt <;> rfl))
theorem doP_buildSlice {tt len d : Nat} {ps : List (Nat × Operand)} : doP T Γ N F ⟨some d, .buildSlice tt len ps.toArray, ty, pos, af, gd⟩ ops l ws Q t h e fs = stP T Γ N F (onT (T tt) fun τ => effBuildSlice T τ h e d len (ps.map fun p => (p.1, ev t p.2))) (some d) (touch ⟨some d, .buildSlice tt len ps.toArray, ty, pos, af, gd⟩ (ev t)) ops l ws Q t h e fs := doP_eff (fun _ _ _ hh => by cases hh) (by simp only [eff]; first | rfl | (cases T tt <;> rfl))
theorem doO_makeSlice {tt d : Nat} {x y : Operand} : doO T Γ N F ⟨some d, .makeSlice tt x y, ty, pos, af, gd⟩ ops l ws Q t h e = stE T Γ N F (onT (T tt) fun τ => effMake T τ e d (ev t x) (ev t y)) (some d) ops l ws Q t h e := doO_eff (fun _ _ _ hh => by cases hh) (by simp only [eff]; first | rfl | (cases T tt <;> rfl))
theorem doP_makeSlice {tt d : Nat} {x y : Operand} : doP T Γ N F ⟨some d, .makeSlice tt x y, ty, pos, af, gd⟩ ops l ws Q t h e fs = stP T Γ N F (onT (T tt) fun τ => effMake T τ e d (ev t x) (ev t y)) (some d) (touch ⟨some d, .makeSlice tt x y, ty, pos, af, gd⟩ (ev t)) ops l ws Q t h e fs := doP_eff (fun _ _ _ hh => by cases hh) (by simp only [eff]; first | rfl | (cases T tt <;> rfl))
theorem doO_alloc {tt d : Nat} : doO T Γ N F ⟨some d, .alloc tt, ty, pos, af, gd⟩ ops l ws Q t h e = stE T Γ N F (allocE (T tt) tt d e (Γ.hint d)) (some d) ops l ws Q t h e := doO_eff (fun _ _ _ hh => by cases hh) (by simp only [eff]; cases T tt with | none => rfl | some τ => (dsimp only [allocE]; cases Γ.hint d <;> rfl))
theorem doP_alloc {tt d : Nat} : doP T Γ N F ⟨some d, .alloc tt, ty, pos, af, gd⟩ ops l ws Q t h e fs = stP T Γ N F (allocE (T tt) tt d e (Γ.hint d)) (some d) (touch ⟨some d, .alloc tt, ty, pos, af, gd⟩ (ev t)) ops l ws Q t h e fs := doP_eff (fun _ _ _ hh => by cases hh) (by simp only [eff]; cases T tt with | none => rfl | some τ => (dsimp only [allocE]; cases Γ.hint d <;> rfl))
theorem doO_makeMap {tt d : Nat} : doO T Γ N F ⟨some d, .makeMap tt none, ty, pos, af, gd⟩ ops l ws Q t h e = stE T Γ N F (mkmE T (T tt) tt e d) (some d) ops l ws Q t h e := doO_eff (fun _ _ _ hh => by cases hh) (by simp only [eff]; first | rfl | (cases T tt <;> rfl))
theorem doP_makeMap {tt d : Nat} : doP T Γ N F ⟨some d, .makeMap tt none, ty, pos, af, gd⟩ ops l ws Q t h e fs = stP T Γ N F (mkmE T (T tt) tt e d) (some d) (touch ⟨some d, .makeMap tt none, ty, pos, af, gd⟩ (ev t)) ops l ws Q t h e fs := doP_eff (fun _ _ _ hh => by cases hh) (by simp only [eff]; first | rfl | (cases T tt <;> rfl))
theorem doO_lookup {tt : Nat} {m i : Operand} {ok : Bool} : doO T Γ N F ⟨dst, .lookup tt m i ok, ty, pos, af, gd⟩ ops l ws Q t h e = stE T Γ N F (onT (T tt) fun τ => effLookup T τ h (ev t m) (ev t i) ok) dst ops l ws Q t h e := doO_eff (fun _ _ _ hh => by cases hh) (by simp only [eff]; first | rfl | (cases T tt <;> rfl))
theorem doP_lookup {tt : Nat} {m i : Operand} {ok : Bool} : doP T Γ N F ⟨dst, .lookup tt m i ok, ty, pos, af, gd⟩ ops l ws Q t h e fs = stP T Γ N F (onT (T tt) fun τ => effLookup T τ h (ev t m) (ev t i) ok) dst (touch ⟨dst, .lookup tt m i ok, ty, pos, af, gd⟩ (ev t)) ops l ws Q t h e fs := doP_eff (fun _ _ _ hh => by cases hh) (by simp only [eff]; first | rfl | (cases T tt <;> rfl))
theorem doO_mapUpdate {tt : Nat} {m i x : Operand} : doO T Γ N F ⟨dst, .mapUpdate tt m i x, ty, pos, af, gd⟩ ops l ws Q t h e = stE T Γ N F (onT (T tt) fun τ => effMapUpdate T τ h (ev t m) (ev t i) (ev t x)) dst ops l ws Q t h e := doO_eff (fun _ _ _ hh => by cases hh) (by simp only [eff]; first | rfl | (cases T tt <;> rfl))
theorem doP_mapUpdate {tt : Nat} {m i x : Operand} : doP T Γ N F ⟨dst, .mapUpdate tt m i x, ty, pos, af, gd⟩ ops l ws Q t h e fs = stP T Γ N F (onT (T tt) fun τ => effMapUpdate T τ h (ev t m) (ev t i) (ev t x)) dst (touch ⟨dst, .mapUpdate tt m i x, ty, pos, af, gd⟩ (ev t)) ops l ws Q t h e fs := doP_eff (fun _ _ _ hh => by cases hh) (by simp only [eff]; first | rfl | (cases T tt <;> rfl))
theorem doO_insert {tt : Nat} {m i x : Operand} : doO T Γ N F ⟨dst, .insert tt m i x, ty, pos, af, gd⟩ ops l ws Q t h e = stE T Γ N F (onT (T tt) fun τ => effMapUpdate T τ h (ev t m) (ev t i) (ev t x)) dst ops l ws Q t h e := doO_eff (fun _ _ _ hh => by cases hh) (by simp only [eff]; first | rfl | (cases T tt <;> rfl))
theorem doP_insert {tt : Nat} {m i x : Operand} : doP T Γ N F ⟨dst, .insert tt m i x, ty, pos, af, gd⟩ ops l ws Q t h e fs = stP T Γ N F (onT (T tt) fun τ => effMapUpdate T τ h (ev t m) (ev t i) (ev t x)) dst (touch ⟨dst, .insert tt m i x, ty, pos, af, gd⟩ (ev t)) ops l ws Q t h e fs := doP_eff (fun _ _ _ hh => by cases hh) (by simp only [eff]; first | rfl | (cases T tt <;> rfl))
theorem doO_box {tt d : Nat} {x : Operand} : doO T Γ N F ⟨some d, .box tt x, ty, pos, af, gd⟩ ops l ws Q t h e = stE T Γ N F (boxE (cellsV h (ev t x)) h tt d e) (some d) ops l ws Q t h e := doO_eff (fun _ _ _ hh => by cases hh) (by simp only [eff]; first | rfl | (cases cellsV h (ev t x) <;> rfl))
theorem doP_box {tt d : Nat} {x : Operand} : doP T Γ N F ⟨some d, .box tt x, ty, pos, af, gd⟩ ops l ws Q t h e fs = stP T Γ N F (boxE (cellsV h (ev t x)) h tt d e) (some d) (touch ⟨some d, .box tt x, ty, pos, af, gd⟩ (ev t)) ops l ws Q t h e fs := doP_eff (fun _ _ _ hh => by cases hh) (by simp only [eff]; first | rfl | (cases cellsV h (ev t x) <;> rfl))
theorem doO_convert {a b : Nat} {x : Operand} : doO T Γ N F ⟨dst, .convert a b x, ty, pos, af, gd⟩ ops l ws Q t h e = stE T Γ N F (convE (T b) (T a) (ev t x)) dst ops l ws Q t h e := doO_eff (fun _ _ _ hh => by cases hh) rfl
theorem doP_convert {a b : Nat} {x : Operand} : doP T Γ N F ⟨dst, .convert a b x, ty, pos, af, gd⟩ ops l ws Q t h e fs = stP T Γ N F (convE (T b) (T a) (ev t x)) dst (touch ⟨dst, .convert a b x, ty, pos, af, gd⟩ (ev t)) ops l ws Q t h e fs := doP_eff (fun _ _ _ hh => by cases hh) rfl
theorem doO_extract {x : Nat} {i : Nat} : doO T Γ N F ⟨dst, .extract (.tmp x) i, ty, pos, af, gd⟩ ops l ws Q t h e = stE T Γ N F (extE (t x) i) dst ops l ws Q t h e := doO_eff (fun _ _ _ hh => by cases hh) rfl
theorem doP_extract {x : Nat} {i : Nat} : doP T Γ N F ⟨dst, .extract (.tmp x) i, ty, pos, af, gd⟩ ops l ws Q t h e fs = stP T Γ N F (extE (t x) i) dst (touch ⟨dst, .extract (.tmp x) i, ty, pos, af, gd⟩ (ev t)) ops l ws Q t h e fs := doP_eff (fun _ _ _ hh => by cases hh) rfl
theorem doO_call {x : Operand} {as : List Operand} {tys : Array Nat} : doO T Γ N F ⟨dst, .call ⟨.value x, as.toArray, tys⟩, ty, pos, af, gd⟩ ops l ws Q t h e = stE T Γ N F (effCall Γ h e dst (ev t x) (as.map (ev t))) dst ops l ws Q t h e := doO_eff (fun _ _ _ hh => by cases hh) rfl
theorem doP_call {x : Operand} {as : List Operand} {tys : Array Nat} : doP T Γ N F ⟨dst, .call ⟨.value x, as.toArray, tys⟩, ty, pos, af, gd⟩ ops l ws Q t h e fs = stP T Γ N F (effCall Γ h e dst (ev t x) (as.map (ev t))) dst (touch ⟨dst, .call ⟨.value x, as.toArray, tys⟩, ty, pos, af, gd⟩ (ev t)) ops l ws Q t h e fs := doP_eff (fun _ _ _ hh => by cases hh) rfl
theorem doO_builtin {x : Builtin} {as : List Operand} {tys : List Nat} : doO T Γ N F ⟨dst, .call ⟨.builtin x, as.toArray, tys.toArray⟩, ty, pos, af, gd⟩ ops l ws Q t h e = stE T Γ N F (effBuiltin T h e dst x tys (as.map (ev t))) dst ops l ws Q t h e := doO_eff (fun _ _ _ hh => by cases hh) rfl
theorem doP_builtin {x : Builtin} {as : List Operand} {tys : List Nat} : doP T Γ N F ⟨dst, .call ⟨.builtin x, as.toArray, tys.toArray⟩, ty, pos, af, gd⟩ ops l ws Q t h e fs = stP T Γ N F (effBuiltin T h e dst x tys (as.map (ev t))) dst (touch ⟨dst, .call ⟨.builtin x, as.toArray, tys.toArray⟩, ty, pos, af, gd⟩ (ev t)) ops l ws Q t h e fs := doP_eff (fun _ _ _ hh => by cases hh) rfl
theorem wpc_mono_loop {b : Code} {K : Kt} (hk : wpc T Γ N F (.loop b) t h e K) : ∃ x s, iter (vcode T Γ N F b) F ⟨t, h, e⟩ = some (x, s) ∧ K x s.t s.h s.e := hk

/-- A loop: the relation I holds, with a number that goes down at every round. -/
theorem runLoop_of {b : Code} (I : Nat → (Nat → D) → (Nat → Option Row) → Nat → Prop) (k : Nat) (hI : I k t h e) (hk : k < F)
    (hstep : ∀ k t h e, I k t h e → runW T Γ N F [.code b] (fun x t' h' e' => match x with
      | .normal => ∃ k', k' < k ∧ I k' t' h' e'
      | x => runW T Γ N F ws Q x t' h' e') .normal t h e) : runLoop T Γ N F b ws Q t h e :=
  wpc_loop I hstep k F t h e hI hk

theorem dyn_alone {o : Array Oper} (h1 : dynOk o fs = true) : dynOk o fs = true := h1
theorem dyn_ok {o : Array Oper} {A : Prop} (h1 : dynOk o fs = true) (h2 : A) : dynOk o fs = true ∧ A := ⟨h1, h2⟩
theorem tstC_br {b : Bool} {g : Nat} {x y : Code} (h1 : b = true → runW T Γ N F (.code x :: ws) Q .normal (upd t g (.bool true)) h e) (h2 : b = false → runW T Γ N F (.code y :: ws) Q .normal (upd t g (.bool false)) h e) : tstC T Γ N F (.bool b) g x y ws Q t h e := by rw [tstC_bool]; exact ⟨h1, h2⟩
theorem tstO_br {b : Bool} {g : Nat} {o : Oper} (h1 : b = true → doO T Γ N F o ops l ws Q (upd t g (.bool true)) h e) (h2 : b = false → runO T Γ N F ops l ws Q (putT (upd t g (.bool false)) o.dst .skp) h e) : tstO T Γ N F (.bool b) g true o ops l ws Q t h e := by rw [tstO_bool]; exact ⟨h1, h2⟩
theorem tstO_br' {b : Bool} {g : Nat} {o : Oper} (h1 : b = true → runO T Γ N F ops l ws Q (putT (upd t g (.bool true)) o.dst .skp) h e) (h2 : b = false → doO T Γ N F o ops l ws Q (upd t g (.bool false)) h e) : tstO T Γ N F (.bool b) g false o ops l ws Q t h e := by rw [tstO_bool']; exact ⟨h1, h2⟩
theorem tstP_br {b : Bool} {g : Nat} {o : Oper} (h1 : b = true → doP T Γ N F o ops l ws Q (upd t g (.bool true)) h e fs) (h2 : b = false → runP T Γ N F ops l ws Q (putT (upd t g (.bool false)) o.dst .skp) h e (fs ++ [⟨[], true⟩])) : tstP T Γ N F (.bool b) g true o ops l ws Q t h e fs := by rw [tstP_bool]; exact ⟨h1, h2⟩
theorem tstP_br' {b : Bool} {g : Nat} {o : Oper} (h1 : b = true → runP T Γ N F ops l ws Q (putT (upd t g (.bool true)) o.dst .skp) h e (fs ++ [⟨[], true⟩])) (h2 : b = false → doP T Γ N F o ops l ws Q (upd t g (.bool false)) h e fs) : tstP T Γ N F (.bool b) g false o ops l ws Q t h e fs := by rw [tstP_bool']; exact ⟨h1, h2⟩
theorem pickO_br {c : Bool} {g : Nat} {a b : Operand} (h1 : c = true → runO T Γ N F ops l ws Q (putT (upd t g (.bool true)) dst (ev (upd t g (.bool true)) a)) h e) (h2 : c = false → runO T Γ N F ops l ws Q (putT (upd t g (.bool false)) dst (ev (upd t g (.bool false)) b)) h e) : pickO T Γ N F (.bool c) g a b dst ops l ws Q t h e := by rw [pickO_bool]; exact ⟨h1, h2⟩
theorem pickP_br {c : Bool} {g : Nat} {a b : Operand} (h1 : c = true → runP T Γ N F ops l ws Q (putT (upd t g (.bool true)) dst (ev (upd t g (.bool true)) a)) h e (fs ++ [⟨[], true⟩])) (h2 : c = false → runP T Γ N F ops l ws Q (putT (upd t g (.bool false)) dst (ev (upd t g (.bool false)) b)) h e (fs ++ [⟨[], true⟩])) : pickP T Γ N F (.bool c) g a b dst ops l ws Q t h e fs := by rw [pickP_bool]; exact ⟨h1, h2⟩

def endW (mode : Mode) (T : Nat → Option Ty) (lent : Option (D × Row)) (rs : List ResultVar) (r : RK × Option Row) : Kt := fun x t h e => endK mode T lent rs x t h e r
theorem endW_normal {mode : Mode} {lent : Option (D × Row)} {rs : List ResultVar} {r : RK × Option Row} : endW mode T lent rs r .normal t h e = (endM mode T lent rs ⟨t, h, e⟩ = some r) := Eq.trans rfl rfl
theorem endW_ret {mode : Mode} {lent : Option (D × Row)} {rs : List ResultVar} {r : RK × Option Row} : endW mode T lent rs r .ret t h e = (endM mode T lent rs ⟨t, h, e⟩ = some r) := Eq.trans rfl rfl

/-- A function's call, reckoned. -/
theorem vfunc_of {mode : Mode} {fn : Func} {c : Code} {n : Nat} {rs : List ResultVar} {args : List D} {r : RK × Option Row} (hb : fn.body = some c) (hn : fn.ntmps = n) (hr : fn.results = rs.toArray) (hw : runW T Γ n F [.code c] (endW mode T none rs r) .normal (argT args) noRow 0) : vfunc mode T Γ F fn none args = some r := by
  refine wpf_ex ?_
  unfold wpf
  rw [hb, hn, hr]
  exact hw

def row0 (r : Row) (i : Nat) : Option Row := if i = 0 then some r else none
theorem row0_app (r : Row) (i : Nat) : row0 r i = if i = 0 then some r else none := Eq.trans rfl rfl
/-- A function's call that is lent its first argument's row. -/
theorem vfunc_lent {mode : Mode} {fn : Func} {c : Code} {n : Nat} {rs : List ResultVar} {d0 : D} {ty : Nat} {cells : List D} {fz lst : Bool} {args : List D} {r : RK × Option Row} (hb : fn.body = some c) (hn : fn.ntmps = n) (hr : fn.results = rs.toArray)
    (hw : runW T Γ n F [.code c] (endW mode T (some (d0, ⟨0, ty, cells, fz, lst, false⟩)) rs r) .normal (argT (d0 :: args)) (row0 ⟨0, ty, cells, fz, lst, false⟩) 1) : vfunc mode T Γ F fn (some (d0, ⟨0, ty, cells, fz, lst, false⟩)) args = some r := by
  refine wpf_ex ?_
  unfold wpf
  rw [hb, hn, hr]
  exact hw
end
end Go.Proofs.YtdecgihkgpgejaaDoor.Am
