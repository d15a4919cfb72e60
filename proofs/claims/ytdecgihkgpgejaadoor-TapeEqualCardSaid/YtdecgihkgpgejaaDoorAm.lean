/- A memory-free machine for the programs' code: what it computes, the model computes. Part 1: data, types, the effect of one operation. -/
import Derived.WalkKit
import Derived.Orders
import Derived.Maps.AppendAt
import Derived.Laws.OwnMore
import Derived.Laws.CopyRow
import Derived.Laws.Concat
import Derived.Laws.Cover3
import Derived.WalkSmall
namespace Go.Proofs.YtdecgihkgpgejaaDoor.Am
open Go.RowKit
set_option linter.unusedSimpArgs false
set_option linter.unusedVariables false

/-- Data: a value as a function of Go sees it, slices by what they hold. -/
inductive D where
  | int (k : IntKind) (n : Int)
  | bool (b : Bool)
  | str (s : ByteArray)
  | sl (nl tight : Bool) (n : Nat) (xs : List D)
  | ptr (x v o : Nat)
  | ip (xs : List D)
  | buf (x v s o n : Nat)
  | agg (xs : List D)
  | tup (xs : List D)
  | fn (f : Nat)
  | clo (f k : Nat) (caps : List D)
  | ali (x v s o n : Nat)
  | box1 (x v s o n : Nat)
  | mp (x v : Nat)
  | mpc (ks : List Int) (vs : List D)
  | alm (x v : Nat)
  | pm (x v y : Nat)
  | und
  | skp

/-- An own row: its version, its type, its cells, whether it is frozen, whether it is a list's (then its cells are plain). -/
structure Row where
  v : Nat
  ty : Nat
  cells : List D
  fz : Bool
  lst : Bool
  mp : Bool := false

def plainC : D → Bool
  | .int _ _ | .bool _ | .str _ | .sl _ _ _ _ | .ali _ _ _ _ _ | .mpc _ _ | .alm _ _ => true
  | _ => false

/-- Data of which the spare facts on nil and capacity are left out. -/
def canon : D → D
  | .sl _ _ n xs => .sl false false n xs
  | d => d

/-- An argument, a result: all parts plain. -/
def canonA : D → D
  | .sl _ _ n xs => .sl false false n xs
  | .agg xs => .agg (xs.map canon)
  | d => d

def upd {α : Type} (f : Nat → α) (i : Nat) (v : α) : Nat → α := fun j => if j = i then v else f j

inductive Ds where
  | int (k : IntKind) | bool | str
  | struct (fs : List (Nat × Nat))
  | slice (e : Nat)
  | arr (n e : Nat)
  | map (k e : Nat)
  | other

structure Ty where
  ds : Ds
  size : Nat
  bytes : Nat
  zero : List Value
  eqok : Bool := false

def conv : TypeDesc → Ds
  | .int k => .int k
  | .bool => .bool
  | .string => .str
  | .struct F => .struct (F.toList.map fun f => (f.type, f.offset))
  | .slice e => .slice e
  | .array n e => .arr n e
  | .map k e => .map k e
  | _ => .other

def ofV : Value → D
  | .int k n => .int k n
  | .bool b => .bool b
  | .string s => .str s
  | .slice none 0 0 => .sl true true 0 []
  | .map none => .mpc [] []
  | _ => .und

def Ds.isA : Ds → Bool
  | .struct _ | .arr _ _ => true
  | _ => false

def ev (t : Nat → D) : Operand → D
  | .tmp i => t i
  | .const v => ofV v
  | .global _ => .und
  | .func f => .fn f

/-- The type table is the program's. -/
def isAggV : Value → Bool
  | .agg _ => true
  | _ => false

structure TyOk (P : Program) (t : Nat) (τ : Ty) : Prop where
  desc : (P.underlying t).map conv = some τ.ds
  info : (P.info? t).map (fun i => (i.size, i.bytes, i.zero.map fun z => z.cells.toList)) = some (τ.size, τ.bytes, some τ.zero)
  agg : (P.info? t).map (fun i => i.zero.map isAggV) = some (some τ.ds.isA)
  eqs : τ.eqok = true → P.stoodInHeld t = false ∧ P.eqGuardType P.depth t = false ∧ (match P.underlying t with | some (.struct F) => F.all (fun f => f.name != "_") | _ => true) = true

def TOk (P : Program) (T : Nat → Option Ty) : Prop := ∀ t τ, T t = some τ → TyOk P t τ

/-- Clean data and the values that they are the data of: in world w, apart from the blocks M. -/
inductive RP (w : World) (M : Nat → Prop) : D → Value → Prop
  | int (k : IntKind) (n : Int) : RP w M (.int k n) (.int k n)
  | bool (b : Bool) : RP w M (.bool b) (.bool b)
  | str (s : ByteArray) : RP w M (.str s) (.string s)
  | sl (A : Option Addr) (c : Nat) (nl tight : Bool) (n : Nat) (xs : List D) (us : Nat → Value) (h1 : n ≤ c) (h2 : c ≤ maxLen) (h3 : nl = true → (tight = true → A = none ∧ c = 0) ∧ (tight = false → A ≠ none)) (h4 : A = none → n = 0 ∧ c = 0)
      (h5 : tight = true → c = n) (h6 : xs ≠ [] → ∃ b o, A = some ⟨b, o, none⟩ ∧ b < w.heap.size ∧ ¬ M b ∧ ∀ j, j < xs.length → w.cell? ⟨b, o + j, none⟩ = some (us j))
      (h7 : ∀ j x, xs[j]? = some x → RP w M x (us j)) (h8 : ∀ x ∈ xs, plainC x = true) : RP w M (.sl nl tight n xs) (.slice A n c)
  | ip (xs : List D) (ad : Addr) (us : Nat → Value) (h6 : xs ≠ [] → ∃ b o, ad = ⟨b, o, none⟩ ∧ b < w.heap.size ∧ ¬ M b ∧ ∀ j, j < xs.length → w.cell? ⟨b, o + j, none⟩ = some (us j))
      (h7 : ∀ j x, xs[j]? = some x → RP w M x (us j)) (h8 : ∀ x ∈ xs, plainC x = true) : RP w M (.ip xs) (.pointer (some ad))
  | agg (xs : List D) (us : List Value) (h1 : us.length = xs.length) (h2 : ∀ j x, xs[j]? = some x → RP w M x (us.getD j undef)) (h3 : ∀ x ∈ xs, plainC x = true) : RP w M (.agg xs) (.agg us.toArray)
  | tup (xs : List D) (us : List Value) (h1 : us.length = xs.length) (h2 : ∀ j x, xs[j]? = some x → RP w M x (us.getD j undef)) : RP w M (.tup xs) (.tuple us.toArray)
  | fn (f : Nat) : RP w M (.fn f) (.func (.func f) #[] #[])
  | ali (x v s o n : Nat) (u : Value) (h1 : u.oneCell' = true) : RP w M (.ali x v s o n) u
  | alm (x v : Nat) (u : Value) (h1 : u.oneCell' = true) : RP w M (.alm x v) u
  | mpc (ks : List Int) (vs : List D) (mb : Option Nat) (us : Nat → Value) (h1 : vs.length = ks.length) (h2 : mb = none → ks = [])
      (h3 : ∀ b, mb = some b → b < w.heap.size ∧ ¬ M b ∧ ∃ (ents : Array MapEntry) (clock : Nat), w.heap[b]? = some (.map ents clock) ∧ ents.size = ks.length ∧ ∀ j k, ks[j]? = some k → ∃ e : MapEntry, ents[j]? = some e ∧ e.key = .int .i64 k ∧ e.val = us j)
      (h4 : ∀ j x, vs[j]? = some x → RP w M x (us j)) : RP w M (.mpc ks vs) (.map mb)
  | clo (f k : Nat) (xs : List D) (us : List Value) (h1 : us.length = xs.length) (h2 : ∀ j x, xs[j]? = some x → RP w M x (us.getD j undef)) : RP w M (.clo f k xs) (.func (.func f) (us.take k).toArray (us.drop k).toArray)

theorem RP.keep {w w' : World} {M M' : Nat → Prop} (hk : ∀ b, b < w.heap.size → ¬ M b → b < w'.heap.size ∧ ¬ M' b ∧ w'.heap[b]? = w.heap[b]?) {d : D} {u : Value} (h : RP w M d u) : RP w' M' d u := by
  induction h with
  | int k n => exact .int k n
  | bool b => exact .bool b
  | str s => exact .str s
  | sl A c nl tight n xs us h1 h2 h3 h4 h5 h6 h7 h8 ih =>
    refine .sl A c nl tight n xs us h1 h2 h3 h4 h5 (fun hne => ?_) ih h8
    obtain ⟨b, o, hA, hb, hM, hc⟩ := h6 hne
    obtain ⟨k1, k2, k3⟩ := hk b hb hM
    exact ⟨b, o, hA, k1, k2, fun j hj => (World.cell?_of_block (a := ⟨b, o + j, none⟩) k3).trans (hc j hj)⟩
  | ip xs ad us h6 h7 h8 ih =>
    refine .ip xs ad us (fun hne => ?_) ih h8
    obtain ⟨b, o, hA, hb, hM, hc⟩ := h6 hne
    obtain ⟨k1, k2, k3⟩ := hk b hb hM
    exact ⟨b, o, hA, k1, k2, fun j hj => (World.cell?_of_block (a := ⟨b, o + j, none⟩) k3).trans (hc j hj)⟩
  | agg xs us h1 h2 h3 ih => exact .agg xs us h1 ih h3
  | tup xs us h1 h2 ih => exact .tup xs us h1 ih
  | fn f => exact .fn f
  | ali x v s o n u h1 => exact .ali x v s o n u h1
  | alm x v u h1 => exact .alm x v u h1
  | mpc ks vs mb us h1 h2 h3 h4 ih =>
    refine .mpc ks vs mb us h1 h2 (fun b hb => ?_) ih
    obtain ⟨k1, k2, ents, clock, k3, k4, k5⟩ := h3 b hb
    obtain ⟨q1, q2, q3⟩ := hk b k1 k2
    exact ⟨q1, q2, ents, clock, q3.trans k3, k4, k5⟩
  | clo f kk xs us h1 h2 ih => exact .clo f kk xs us h1 ih

theorem RP.canon {w : World} {M : Nat → Prop} {d : D} {u : Value} (h : RP w M d u) : RP w M (canon d) u := by
  cases h with
  | sl A c nl tight n xs us h1 h2 h3 h4 h5 h6 h7 h8 => exact .sl A c false false n xs us h1 h2 (fun h => by cases h) h4 (fun h => by cases h) h6 h7 h8
  | int k n => exact .int k n
  | bool b => exact .bool b
  | str s => exact .str s
  | ip xs ad us h6 h7 h8 => exact .ip xs ad us h6 h7 h8
  | agg xs us h1 h2 h3 => exact .agg xs us h1 h2 h3
  | tup xs us h1 h2 => exact .tup xs us h1 h2
  | fn f => exact .fn f
  | ali x v s o n u h1 => exact .ali x v s o n u h1
  | alm x v u h1 => exact .alm x v u h1
  | mpc ks vs mb us h1 h2 h3 h4 => exact .mpc ks vs mb us h1 h2 h3 h4
  | clo f kk xs us h1 h2 => exact .clo f kk xs us h1 h2

theorem plainC_canon (d : D) : plainC (canon d) = plainC d := by cases d <;> rfl

theorem RP.canonA {w : World} {M : Nat → Prop} {d : D} {u : Value} (h : RP w M d u) : RP w M (canonA d) u := by
  cases h with
  | agg xs us h1 h2 h3 =>
    refine .agg _ us (by simpa using h1) (fun j x hj => ?_) (fun x hx => ?_)
    · rw [List.getElem?_map, Option.map_eq_some_iff] at hj
      obtain ⟨y, hy, rfl⟩ := hj
      exact (h2 j y hy).canon
    · obtain ⟨y, hy, rfl⟩ := List.mem_map.1 hx
      rw [plainC_canon]
      exact h3 y hy
  | sl A c nl tight n xs us h1 h2 h3 h4 h5 h6 h7 h8 => exact .sl A c false false n xs us h1 h2 (fun h => by cases h) h4 (fun h => by cases h) h6 h7 h8
  | int k n => exact .int k n
  | bool b => exact .bool b
  | str s => exact .str s
  | ip xs ad us h6 h7 h8 => exact .ip xs ad us h6 h7 h8
  | tup xs us h1 h2 => exact .tup xs us h1 h2
  | fn f => exact .fn f
  | ali x v s o n u h1 => exact .ali x v s o n u h1
  | alm x v u h1 => exact .alm x v u h1
  | mpc ks vs mb us h1 h2 h3 h4 => exact .mpc ks vs mb us h1 h2 h3 h4
  | clo f kk xs us h1 h2 => exact .clo f kk xs us h1 h2

/-- What a closure may hold on to. blk: a row's block, and where in it the row begins; none: an empty row that has no block. -/
def RC (w : World) (M : Nat → Prop) (h : Nat → Option Row) (blk : Nat → Option (Nat × Nat)) (V : Nat → Nat → Prop) : D → Value → Prop
  | .ptr x v o, u => V x v ∧ ∀ r, h x = some r → r.v = v → ∃ g, blk x = some g ∧ u = .pointer (some ⟨g.1, g.2 + o, none⟩)
  | .mp x v, u => V x v ∧ ∀ r, h x = some r → r.v = v → ∃ g, blk x = some g ∧ u = .map (some g.1)
  | .pm x v _, u => V x v ∧ ∀ r, h x = some r → r.v = v → ∃ g, blk x = some g ∧ u = .pointer (some ⟨g.1, g.2 + 0, none⟩)
  | d, u => RP w M d u

/-- What a slot may hold. -/
def RT (w : World) (M : Nat → Prop) (h : Nat → Option Row) (blk : Nat → Option (Nat × Nat)) (V : Nat → Nat → Prop) : D → Value → Prop
  | .ptr x v o, u => V x v ∧ ∀ r, h x = some r → r.v = v → ∃ g, blk x = some g ∧ u = .pointer (some ⟨g.1, g.2 + o, none⟩)
  | .buf x v s o n, u => V x v ∧ ∀ r, h x = some r → r.v = v →
      (∃ g o' c N t, blk x = some g ∧ u = .slice (some ⟨g.1, o', none⟩) n c ∧ (0 < c ∨ o = 0 → o' = g.2 + o ∧ c * s + o' = N) ∧ n ≤ c ∧ c ≤ maxLen ∧ w.shape? g.1 = some (t, N)) ∨ (blk x = none ∧ n = 0 ∧ ∃ A, u = .slice A 0 0)
  | .clo f kk xs, u => ∃ us : List Value, u = .func (.func f) (us.take kk).toArray (us.drop kk).toArray ∧ us.length = xs.length ∧ ∀ (j : Nat) x, xs[j]? = some x → RC w M h blk V x (us.getD j undef)
  | .mp x v, u => V x v ∧ ∀ r, h x = some r → r.v = v → ∃ g, blk x = some g ∧ u = .map (some g.1)
  | .pm x v _, u => V x v ∧ ∀ r, h x = some r → r.v = v → ∃ g, blk x = some g ∧ u = .pointer (some ⟨g.1, g.2 + 0, none⟩)
  | .box1 x v s o n, u => ∃ u' : Value, u = .agg #[u'] ∧ u'.oneCell' = true ∧ V x v ∧ ∀ r, h x = some r → r.v = v →
      (∃ g o' c N t, blk x = some g ∧ u' = .slice (some ⟨g.1, o', none⟩) n c ∧ (0 < c ∨ o = 0 → o' = g.2 + o ∧ c * s + o' = N) ∧ n ≤ c ∧ c ≤ maxLen ∧ w.shape? g.1 = some (t, N)) ∨ (blk x = none ∧ n = 0 ∧ ∃ A, u' = .slice A 0 0)
  | .und, _ => True
  | .skp, u => u = undef
  | d, u => RP w M d u

/-- The blocks that may be written: the callers', and the own ones that are not frozen. -/
def Own (M : Nat → Prop) (h : Nat → Option Row) (blk : Nat → Option (Nat × Nat)) (b : Nat) : Prop := M b ∨ ∃ x r g, h x = some r ∧ r.fz = false ∧ blk x = some g ∧ g.1 = b

/-- A row's cells lie in memory. -/
def Lies (w : World) (M : Nat → Prop) (g : Nat × Nat) (r : Row) : Prop :=
  ∃ cs : Array Value, w.heap[g.1]? = some (.cells cs r.ty (0, 0)) ∧ g.2 + r.cells.length ≤ cs.size ∧ ∀ j d, r.cells[j]? = some d → plainC d = true ∧ RP w M d (cs.getD (g.2 + j) undef)

/-- A map of ours lies in memory. -/
def MapLies (w : World) (M : Nat → Prop) (g : Nat × Nat) (r : Row) : Prop :=
  ∃ ks vs, r.cells = [.mpc ks vs] ∧ vs.length = ks.length ∧ ∃ (ents : Array MapEntry) (clock : Nat), w.heap[g.1]? = some (.map ents clock) ∧ ents.size = ks.length ∧ ∃ us : Nat → Value, (∀ j k, ks[j]? = some k → ∃ e : MapEntry, ents[j]? = some e ∧ e.key = .int .i64 k ∧ e.val = us j) ∧ ∀ j x, vs[j]? = some x → RP w M x (us j)

def RowIs (w : World) (M : Nat → Prop) (g : Nat × Nat) (r : Row) : Prop :=
  match r.mp with
  | true => MapLies w M g r
  | false => Lies w M g r

/-- A row: in a block that is new, or lent (L); or empty and nowhere. -/
def RowOk (L : Nat → Prop) (w0 w : World) (M : Nat → Prop) (g : Option (Nat × Nat)) (r : Row) : Prop :=
  match g with
  | some g => (w0.heap.size ≤ g.1 ∨ L g.1) ∧ RowIs w M g r
  | none => r.cells = []

/-- The table of the powers of ten, where the program has one (a variable of the library's, number tabBlk). -/
def tabBlk : Option Nat := some 0
def pow10V : Array Value := ((List.range 20).map fun i => Value.int .u64 ((10 ^ i : Nat) : Int)).toArray
structure TabAt (w : World) (M : Nat → Prop) (b : Nat) : Prop where
  lt : b < w.heap.size
  no : ¬ M b
  is : ∃ ty fr, w.heap[b]? = some (.cells pow10V ty fr)
theorem TabAt.less {w : World} {M1 M2 : Nat → Prop} {b : Nat} (h : TabAt w M1 b) (hm : ∀ b, M2 b → M1 b) : TabAt w M2 b := ⟨h.lt, fun hb => h.no (hm _ hb), h.is⟩
def TabR (w : World) (M : Nat → Prop) : Prop := ∀ b, tabBlk = some b → TabAt w M b
theorem TabR.keep {w w' : World} {M M' : Nat → Prop} (hk : ∀ b, b < w.heap.size → ¬ M b → b < w'.heap.size ∧ ¬ M' b ∧ w'.heap[b]? = w.heap[b]?) (h : TabR w M) : TabR w' M' := fun b hb => by
  obtain ⟨h1, h2, ty, fr, h3⟩ := h b hb
  obtain ⟨k1, k2, k3⟩ := hk b h1 h2
  exact ⟨k1, k2, ty, fr, k3.trans h3⟩

/-- A later world: what was there is as it was, but for the lent blocks. -/
structure Beyond (L : Nat → Prop) (w0 w : World) : Prop where
  os : w.os = w0.os
  tape : w.tape = w0.tape
  output : w.output = w0.output
  size : w0.heap.size ≤ w.heap.size
  block : ∀ k, k < w0.heap.size → ¬ L k → w.heap[k]? = w0.heap[k]?

/-- What a cell stands for. -/
def alD : D → Option D
  | .ali x v s o n => some (.buf x v s o n)
  | .alm x v => some (.mp x v)
  | _ => none

/-- A lent row: where it is. -/
abbrev Lent := Option (Option (Nat × Nat))
def LB (L : Lent) (b : Nat) : Prop := ∃ g : Nat × Nat, L = some (some g) ∧ b = g.1

structure Inv (N : Nat) (M : Nat → Prop) (L : Lent) (w0 : World) (blk : Nat → Option (Nat × Nat)) (V : Nat → Nat → Prop) (t : Nat → D) (h : Nat → Option Row) (a : Act) (w : World) : Prop where
  tab : TabR w (Own M h blk)
  below : Beyond (LB L) w0 w
  mlt : ∀ b, M b → b < w0.heap.size
  lent : ∀ b, LB L b → ¬ M b
  pin : ∀ go, L = some go → V 0 0 ∧ ∀ r, h 0 = some r → r.v = 0 → blk 0 = go ∧ ∀ g, go = some g → w.shape? g.1 = w0.shape? g.1
  defers : a.defers = []
  tsz : a.tmps.size = N
  slots : ∀ i, RT w (Own M h blk) h blk V (t i) (a.tmps.getD i undef)
  rows : ∀ x r, h x = some r → V x r.v ∧ RowOk (LB L) w0 w (Own M h blk) (blk x) r
  inj : ∀ x y r s g g', h x = some r → h y = some s → blk x = some g → blk y = some g' → g.1 = g'.1 → x = y
  ali : ∀ y r g, h y = some r → r.fz = true → r.lst = false → blk y = some g → ∀ j c d, r.cells[j]? = some c → alD c = some d → ∃ u, w.cell? ⟨g.1, g.2 + j, none⟩ = some u ∧ RT w (Own M h blk) h blk V d u

/-! The effect of one operation. -/

def nm1 : D → List Nat
  | .ptr x _ _ => [x]
  | .box1 x _ _ _ _ => [x]
  | .mp x _ => [x]
  | .pm x _ y => [x, y]
  | .buf x _ _ _ _ => [x]
  | _ => []

def nm : D → List Nat
  | .clo _ _ xs => xs.flatMap nm1
  | d => nm1 d

def live (h : Nat → Option Row) (x v : Nat) : Option Row :=
  match h x with
  | some r => if r.v = v ∧ r.mp = false then some r else none
  | none => none

/-- A live map. -/
def liveM (h : Nat → Option Row) (x v : Nat) : Option (List Int × List D) :=
  match h x with
  | some r => if r.v = v ∧ r.mp = true then (match r.cells with | [.mpc ks vs] => some (ks, vs) | _ => none) else none
  | none => none

def content (h : Nat → Option Row) : D → Option (Nat × List D)
  | .sl _ _ n xs => some (n, xs)
  | .buf x v s o n =>
    match live h x v with
    | some r => if o + n * s ≤ r.cells.length then some (n, (r.cells.drop o).take (n * s)) else none
    | none => none
  | _ => none

/-- One clean cell; which own rows it freezes. -/
def clean1 (h : Nat → Option Row) : D → Option (D × List Nat)
  | .int k n => some (.int k n, [])
  | .bool b => some (.bool b, [])
  | .str s => some (.str s, [])
  | .sl a b n xs => some (.sl a b n xs, [])
  | .buf x v s o n =>
    match live h x v with
    | some r => if o + n * s ≤ r.cells.length then some (.sl false false n ((r.cells.drop o).take (n * s)), [x]) else none
    | none => none
  | _ => none

def cellsV (h : Nat → Option Row) : D → Option (List D × List Nat)
  | .agg xs => some (xs, [])
  | d =>
    match clean1 h d with
    | some (d', fr) => some ([d'], fr)
    | none => none

def cleanCap (h : Nat → Option Row) : D → Option (D × List Nat)
  | .ptr x v o =>
    match live h x v with
    | some r => if o ≤ r.cells.length then some (.ip (r.cells.drop o), [x]) else none
    | none => none
  | .agg xs => some (.agg (xs.map canon), [])
  | .ip xs => some (.ip xs, [])
  | .fn f => some (.fn f, [])
  | .box1 x v s o n =>
    match clean1 h (.buf x v s o n) with
    | some (d', fr) => some (.agg [canon d'], fr)
    | none => none
  | .mp x v =>
    match liveM h x v with
    | some (ks, vs) => some (.mpc ks vs, [x])
    | none => none
  | .mpc ks vs => some (.mpc ks vs, [])
  | .pm x v y =>
    match live h x v with
    | some r =>
      match r.cells with
      | [.alm y' v'] =>
        if r.fz = true ∧ r.lst = false ∧ y' = y then
          match liveM h y v' with
          | some (ks, vs) => some (.ip [.mpc ks vs], [x, y])
          | none => none
        else none
      | _ => none
    | none => none
  | d =>
    match clean1 h d with
    | some (d', fr) => some (canon d', fr)
    | none => none

def cleanCaps (h : Nat → Option Row) : List D → Option (List D × List Nat)
  | [] => some ([], [])
  | d :: ds =>
    match cleanCap h d with
    | some (d', fr) =>
      match cleanCaps h ds with
      | some (ds', fr') => some (d' :: ds', fr ++ fr')
      | none => none
    | none => none

def cleanArg (h : Nat → Option Row) : D → Option (D × List Nat)
  | .clo f kk xs =>
    match cleanCaps h xs with
    | some (ys, fr) => some (.clo f kk ys, fr)
    | none => none
  | d => cleanCap h d

def cleanArgs (h : Nat → Option Row) : List D → Option (List D × List Nat)
  | [] => some ([], [])
  | d :: ds =>
    match cleanArg h d with
    | some (d', fr) =>
      match cleanArgs h ds with
      | some (ds', fr') => some (d' :: ds', fr ++ fr')
      | none => none
    | none => none

/-- A row is frozen; one that is frozen stays as it is. -/
def frzR (r : Row) : Row :=
  match r.fz with
  | true => r
  | false => { r with fz := true, lst := true }
def frz (h : Nat → Option Row) (fr : List Nat) : List (Nat × Option Row) := fr.map fun x => (x, (h x).map frzR)

structure Eff where
  val : D
  hw : List (Nat × Option Row)

def applyH (h : Nat → Option Row) : List (Nat × Option Row) → Nat → Option Row
  | [] => h
  | (x, r) :: l => applyH (upd h x r) l

def plainIn (b : Bool) (cs : List D) : List D := if b then cs.map canon else cs

def putCells (cells : List D) (o : Nat) (cs : List D) : List D := cells.take o ++ cs ++ cells.drop (o + cs.length)

def loadD (τ : Ty) (cs : List D) : Option D :=
  if τ.ds.isA then some (.agg cs) else match cs with | [d] => some d | _ => none

/-- A cell that stands for an own slice. -/
def aliD (b : Bool) : List D → Option D
  | [.ali x v s o n] => some (if b then .box1 x v s o n else .buf x v s o n)
  | _ => none

def effLoad (τ : Ty) (h : Nat → Option Row) : D → Option Eff
  | .ptr x v o =>
    match live h x v with
    | some r => if o + τ.size ≤ r.cells.length then (match loadD τ ((r.cells.drop o).take τ.size) with | some d => some ⟨d, []⟩ | none => none) else none
    | none => none
  | .ip xs => if τ.size ≤ xs.length then (match loadD τ (xs.take τ.size) with | some d => some ⟨d, []⟩ | none => none) else none
  | _ => none

/-- A load, of an own slice too. -/
def effLdR (τ : Ty) (h : Nat → Option Row) (x v o : Nat) : Option Row → Option Eff
  | some r =>
    if r.fz && !r.lst then
      if o + τ.size ≤ r.cells.length then
        match aliD τ.ds.isA ((r.cells.drop o).take τ.size) with
        | some d => some ⟨d, []⟩
        | none => effLoad τ h (.ptr x v o)
      else none
    else effLoad τ h (.ptr x v o)
  | none => none

def effLd (τ : Ty) (h : Nat → Option Row) : D → Option Eff
  | .ptr x v o => effLdR τ h x v o (live h x v)
  | .pm x v _ =>
    match live h x v with
    | some r =>
      match r.cells with
      | [.alm y' v'] => if r.fz = true ∧ r.lst = false ∧ τ.size = 1 ∧ τ.ds.isA = false then some ⟨.mp y' v', []⟩ else none
      | _ => none
    | none => none
  | d => effLoad τ h d

def effStore (τ : Ty) (h : Nat → Option Row) : D → D → Option Eff
  | .ptr x v o, d =>
    match live h x v with
    | some r =>
      match cellsV h d with
      | some (cs, fr) => if cs.length = τ.size ∧ o + τ.size ≤ r.cells.length ∧ r.fz = false ∧ fr.contains x = false then some ⟨.und, frz h fr ++ [(x, some { r with cells := putCells r.cells o (plainIn r.lst cs) })]⟩ else none
      | none => none
    | none => none
  | _, _ => none

/-- A store, of a struct that holds an own slice too. -/
def effSto (τ : Ty) (h : Nat → Option Row) (p d : D) : Option Eff :=
  match d with
  | .box1 y vy s oy n =>
    match p with
    | .ptr x v o =>
      match live h x v with
      | some r => if τ.size = 1 ∧ o = 0 ∧ r.cells.length = 1 ∧ r.fz = false ∧ r.lst = false then some ⟨.und, [(x, some ⟨r.v, r.ty, [.ali y vy s oy n], true, false, false⟩)]⟩ else none
      | none => none
    | _ => none
  | .mp y' v' =>
    match p with
    | .pm x v y =>
      match live h x v with
      | some r => if τ.size = 1 ∧ y' = y ∧ r.cells.length = 1 ∧ r.fz = false ∧ r.lst = false ∧ (liveM h y v').isSome then some ⟨.und, [(x, some ⟨r.v, r.ty, [.alm y' v'], true, false, false⟩)]⟩ else none
      | none => none
    | _ => none
  | d => effStore τ h p d

def effNil (h : Nat → Option Row) : D → Option Eff
  | .ptr x v o => match live h x v with | some _ => some ⟨.ptr x v o, []⟩ | none => none
  | .ip xs => some ⟨.ip xs, []⟩
  | _ => none

def effField (T : Nat → Option Ty) (τ : Ty) (h : Nat → Option Row) (i : Nat) : D → Option Eff
  | .ptr x v o =>
    match live h x v, τ.ds with
    | some _, .struct fs => match fs[i]? with
      | some (ft, off) => match T ft with | some φ => if φ.size = 0 then none else some ⟨.ptr x v (o + off), []⟩ | none => none
      | none => none
    | _, _ => none
  | .ip xs =>
    match τ.ds with
    | .struct fs => match fs[i]? with
      | some (ft, off) => match T ft with | some φ => if φ.size = 0 then none else some ⟨.ip (xs.drop off), []⟩ | none => none
      | none => none
    | _ => none
  | _ => none

def partD (φ : Ty) (xs : List D) (off : Nat) : Option D :=
  if φ.ds.isA then (if off + φ.size ≤ xs.length then some (.agg ((xs.drop off).take φ.size)) else none) else xs[off]?

def effPart (T : Nat → Option Ty) (τ : Ty) (i : Nat) : D → Option Eff
  | .agg xs =>
    match τ.ds with
    | .struct fs => match fs[i]? with
      | some (ft, off) => match T ft with | some φ => (match partD φ xs off with | some d => some ⟨d, []⟩ | none => none) | none => none
      | none => none
    | _ => none
  | _ => none

def effIndexAddr (T : Nat → Option Ty) (τ : Ty) (h : Nat → Option Row) : D → D → Option Eff
  | .sl _ _ n xs, .int _ i =>
    match τ.ds with
    | .slice el => match T el with | some φ => if 0 ≤ i ∧ i < n then some ⟨.ip (xs.drop (i.toNat * φ.size)), []⟩ else none | none => none
    | _ => none
  | .buf x v s o n, .int _ i =>
    match live h x v, τ.ds with
    | some _, .slice el => match T el with | some φ => if φ.size = s ∧ 0 ≤ i ∧ i < n then some ⟨.ptr x v (o + i.toNat * s), []⟩ else none | none => none
    | _, _ => none
  | .ptr x v o, .int _ i =>
    match live h x v, τ.ds with
    | some _, .arr n el => match T el with | some φ => if 0 ≤ i ∧ i < n then some ⟨.ptr x v (o + i.toNat * φ.size), []⟩ else none | none => none
    | _, _ => none
  | _, _ => none

def effIndex (T : Nat → Option Ty) (τ : Ty) : D → D → Option Eff
  | .str s, .int _ i =>
    match τ.ds with
    | .str => if 0 ≤ i then (match s[i.toNat]? with | some b => some ⟨.int .u8 b.toNat, []⟩ | none => none) else none
    | _ => none
  | .agg xs, .int _ i =>
    match τ.ds with
    | .arr n el => match T el with | some φ => if 0 ≤ i ∧ i < n then (match partD φ xs (i.toNat * φ.size) with | some d => some ⟨d, []⟩ | none => none) else none | none => none
    | _ => none
  | _, _ => none

def natOf : D → Option Nat
  | .int _ i => if 0 ≤ i then some i.toNat else none
  | _ => none

/-- The bounds of a cut: low, high. -/
def bnds (n : Nat) (lo hi : Option D) : Option (Nat × Nat) :=
  match (match hi with | none => some n | some d => natOf d), (match lo with | none => some 0 | some d => natOf d) with
  | some h, some l => if l ≤ h ∧ h ≤ n then some (l, h) else none
  | _, _ => none

def effSlice (T : Nat → Option Ty) (τ : Ty) (h : Nat → Option Row) (x : D) (lo hi mx : Option D) : Option Eff :=
  match x with
  | .str s =>
    match τ.ds, mx, bnds s.size lo hi with
    | .str, none, some (l, k) => some ⟨.str (s.extract l k), []⟩
    | _, _, _ => none
  | .sl nl tight n xs =>
    match τ.ds with
    | .slice el =>
      match T el, bnds n lo hi with
      | some φ, some (l, k) =>
        match mx with
        | none => some ⟨.sl (nl && tight) (tight && k == n) (k - l) ((xs.drop (l * φ.size)).take ((k - l) * φ.size)), []⟩
        | some m => match natOf m, hi with
          | some m, some _ => if k ≤ m ∧ m ≤ n then some ⟨.sl false (m == k) (k - l) ((xs.drop (l * φ.size)).take ((k - l) * φ.size)), []⟩ else none
          | _, _ => none
      | _, _ => none
    | _ => none
  | .buf y v s o n =>
    match live h y v, τ.ds, mx with
    | some _, .slice el, none =>
      match T el, bnds n lo hi with
      | some φ, some (l, k) => if φ.size = s ∧ 0 < s then some ⟨.buf y v s (o + l * s) (k - l), []⟩ else none
      | _, _ => none
    | _, _, _ => none
  | _ => none

/-- A struct's or a row's cells, parts put in. -/
def fillD (h : Nat → Option Row) (place : Nat → Option (Nat × Nat)) (cells : List D) : List (Nat × D) → Option (List D × List Nat)
  | [] => some (cells, [])
  | (i, d) :: rest =>
    match place i, cellsV h d with
    | some (off, size), some (cs, fr) =>
      if cs.length = size ∧ off + size ≤ cells.length then
        match fillD h place (putCells cells off cs) rest with
        | some (out, fr') => some (out, fr ++ fr')
        | none => none
      else none
    | _, _ => none

def fieldAt (T : Nat → Option Ty) (fs : List (Nat × Nat)) (i : Nat) : Option (Nat × Nat) :=
  match fs[i]? with
  | some (ft, off) => match T ft with | some φ => some (off, φ.size) | none => none
  | none => none

def effBuild (T : Nat → Option Ty) (τ : Ty) (h : Nat → Option Row) (parts : List (Nat × D)) : Option Eff :=
  match τ.ds with
  | .struct fs =>
    if (fs.all fun f => (T f.1).isSome) && (τ.zero.map ofV).all plainC then
      match fillD h (fieldAt T fs) (τ.zero.map ofV) parts with
      | some (cs, fr) => some ⟨.agg cs, frz h fr⟩
      | none => none
    else none
  | _ => none

def alive (h : Nat → Option Row) : D → Bool
  | .ptr x v _ => (live h x v).isSome
  | .buf x v _ _ _ => (live h x v).isSome
  | _ => true

/-- A struct of which the spare facts are left out. -/
def cE : Option Eff → Option Eff
  | some ⟨.agg cs, hw⟩ => some ⟨.agg (cs.map canon), hw⟩
  | _ => none

/-- A struct of one cell, put together of an own slice, where it may stay one; or a struct that is to hold clean data. -/
def effBld (q : Nat → Bool) (T : Nat → Option Ty) (τ : Ty) (h : Nat → Option Row) (dst : Option Nat) (parts : List (Nat × D)) : Option Eff :=
  match dst with
  | some d =>
    if q d then effBuild T τ h parts else
      match τ.ds, parts with
      | .struct fs, [(0, .buf x v s o n)] => if (alive h (.buf x v s o n)) ∧ (fs.all fun f => (T f.1).isSome) ∧ fieldAt T fs 0 = some (0, 1) ∧ τ.zero.length = 1 then some ⟨.box1 x v s o n, []⟩ else none
      | _, _ => cE (effBuild T τ h parts)
  | none => effBuild T τ h parts

def repD (n : Nat) (zs : List D) : List D := (List.replicate n zs).flatten

def effBuildSlice (T : Nat → Option Ty) (τ : Ty) (h : Nat → Option Row) (e d len : Nat) (parts : List (Nat × D)) : Option Eff :=
  match τ.ds with
  | .slice el =>
    match T el with
    | some φ =>
      if len * φ.size ≤ 16777216 ∧ 0 < φ.size ∧ (φ.zero.map ofV).all plainC = true ∧ φ.zero.length = φ.size then
        match fillD h (fun i => some (i * φ.size, φ.size)) (repD len (φ.zero.map ofV)) parts with
        | some (cs, fr) => if fr.contains d = false then some ⟨.buf d e φ.size 0 len, frz h fr ++ [(d, some ⟨e, el, cs.map canon, false, true, false⟩)]⟩ else none
        | none => none
      else none
    | none => none
  | _ => none

def effMake (T : Nat → Option Ty) (τ : Ty) (e d : Nat) (l c : D) : Option Eff :=
  match τ.ds with
  | .slice el =>
    match T el, natOf l, natOf c with
    | some φ, some l, some c =>
      if l ≤ c ∧ c ≤ maxLen ∧ c * φ.bytes ≤ 140737488355328 ∧ 0 < φ.size ∧ (φ.zero.map ofV).all plainC = true ∧ φ.zero.length = φ.size then
        some ⟨.buf d e φ.size 0 l, [(d, some ⟨e, el, repD l ((φ.zero.map ofV).map canon), false, true, false⟩)]⟩
      else none
    | _, _, _ => none
  | _ => none

def effAppend (T : Nat → Option Ty) (τ : Ty) (h : Nat → Option Row) (e d : Nat) (s x : D) : Option Eff :=
  match τ.ds with
  | .slice el =>
    match T el, content h x with
    | some φ, some (m, news) =>
      if 0 < φ.size ∧ φ.zero.length = φ.size then
        match s with
        | .sl nl tight n xs =>
          if tight = true ∧ n + m ≤ maxLen ∧ (n + m) * φ.bytes ≤ 140737488355328 ∧ xs.length = n * φ.size ∧ news.length = m * φ.size then
            if m = 0 then some ⟨.sl nl tight n xs, []⟩ else some ⟨.buf d e φ.size 0 (n + m), [(d, some ⟨e, el, xs ++ news, false, true, false⟩)]⟩
          else none
        | .buf y v z o n =>
          match live h y v with
          | some r =>
            if z = φ.size ∧ r.ty = el ∧ r.fz = false ∧ o + n * φ.size ≤ r.cells.length ∧ n + m ≤ maxLen ∧ (n + m) * φ.bytes ≤ 140737488355328 ∧ news.length = m * φ.size then
              some ⟨.buf d e φ.size 0 (n + m), [(y, none), (d, some ⟨e, el, (r.cells.drop o).take (n * φ.size) ++ news, false, true, false⟩)]⟩
            else none
          | none => none
        | _ => none
      else none
    | _, _ => none
  | _ => none

/-- Maps. -/
def lookD (z : D) : List Int → List D → Int → D
  | k :: ks, v :: vs, n => if k = n then v else lookD z ks vs n
  | _, _, _ => z
def putK (ks : List Int) (n : Int) : List Int := if ks.contains n then ks else ks ++ [n]
def putV (ks : List Int) (vs : List D) (n : Int) (d : D) : List D := if ks.contains n then vs.set (ks.idxOf n) d else vs ++ [d]
def mapTy (T : Nat → Option Ty) (τ : Ty) : Option Ty :=
  match τ.ds with
  | .map k el => match T k, T el with
    | some κ, some φ => match κ.ds with | .int .i64 => some φ | _ => none
    | _, _ => none
  | _ => none
def effMakeMap (T : Nat → Option Ty) (ty : Nat) (τ : Ty) (e d : Nat) : Option Eff :=
  match mapTy T τ with
  | some _ => some ⟨.mp d e, [(d, some ⟨e, ty, [.mpc [] []], false, true, true⟩)]⟩
  | none => none
def mapOf (h : Nat → Option Row) : D → Option (List Int × List D)
  | .mp x v => liveM h x v
  | .mpc ks vs => some (ks, vs)
  | _ => none
def effLookup (T : Nat → Option Ty) (τ : Ty) (h : Nat → Option Row) (m i : D) (ok : Bool) : Option Eff :=
  match mapTy T τ, mapOf h m, i with
  | some φ, some (ks, vs), .int .i64 n =>
    match loadD φ (φ.zero.map ofV) with
    | some z => if (φ.zero.map ofV).all plainC then some ⟨if ok then .tup [lookD (canonA z) ks vs n, .bool (ks.contains n)] else lookD (canonA z) ks vs n, []⟩ else none
    | none => none
  | _, _, _ => none
def valM (h : Nat → Option Row) : D → Option (D × List Nat)
  | .agg xs => some (.agg (xs.map canon), [])
  | d =>
    match clean1 h d with
    | some (d', fr) => some (canon d', fr)
    | none => none
def effMapUpdate (T : Nat → Option Ty) (τ : Ty) (h : Nat → Option Row) (m i x : D) : Option Eff :=
  match mapTy T τ, m, i, valM h x with
  | some _, .mp y v, .int .i64 n, some (d, fr) =>
    match h y with
    | some r =>
      match liveM h y v with
      | some (ks, vs) => if r.fz = false ∧ fr.contains y = false then some ⟨.und, frz h fr ++ [(y, some ⟨r.v, r.ty, [.mpc (putK ks n) (putV ks vs n d)], false, true, true⟩)]⟩ else none
      | none => none
    | none => none
  | _, _, _, _ => none

def eqC : D → D → Option Bool
  | .int k a, .int k' b => if k = k' then some (a == b) else none
  | .bool a, .bool b => some (a == b)
  | .str a, .str b => some (a == b)
  | _, _ => none

def eqL : List D → List D → Option Bool
  | [], [] => some true
  | x :: xs, y :: ys => match eqC x y, eqL xs ys with | some a, some b => some (a && b) | _, _ => none
  | _, _ => none

def scalarDs : Ds → Bool
  | .int _ | .bool | .str => true
  | _ => false

/-- The data of a scalar type are of that kind. -/
def kindOk : Ds → D → Bool
  | .int _, .int _ _ => true
  | .bool, .bool _ => true
  | .str, .str _ => true
  | _, _ => false

def fieldsFlat (T : Nat → Option Ty) : Nat → List (Nat × Nat) → List D → Bool
  | _, [], [] => true
  | o, (ft, off) :: fs, x :: xs => off == o && (match T ft with | some φ => kindOk φ.ds x | none => false) && fieldsFlat T (o + 1) fs xs
  | _, _, _ => false

/-- Is it nil? As far as it is known. -/
def nilB (nl tight : Bool) (n : Nat) : Option Bool := if 0 < n then some false else if nl then some tight else none

def eqD (T : Nat → Option Ty) (τ : Ty) : D → D → Option Bool
  | .bool a, .bool b => match τ.ds with | .bool => some (a == b) | _ => none
  | .sl nl tight n _, .sl true true 0 [] => match τ.ds with | .slice _ => nilB nl tight n | _ => none
  | .agg xs, .agg ys =>
    match τ.ds with
    | .struct fs => if τ.eqok && fieldsFlat T 0 fs xs then eqL xs ys else none
    | _ => none
  | _, _ => none

def bitD (op : BinOp) (k : IntKind) (x y : Int) : Int :=
  let a := BitVec.ofInt k.bits x
  let b := BitVec.ofInt k.bits y
  match op with
  | .and => k.wrap (a &&& b).toNat
  | .or => k.wrap (a ||| b).toNat
  | .xor => k.wrap (a ^^^ b).toNat
  | _ => k.wrap (a &&& ~~~b).toNat

def intD (op : BinOp) (k : IntKind) (x y : Int) : Option D :=
  match op with
  | .add => some (.int k (k.wrap (x + y)))
  | .sub => some (.int k (k.wrap (x - y)))
  | .mul => some (.int k (k.wrap (x * y)))
  | .quo => if y = 0 then none else some (.int k (k.wrap (x.tdiv y)))
  | .rem => if y = 0 then none else some (.int k (x.tmod y))
  | .and => some (.int k (bitD .and k x y))
  | .or => some (.int k (bitD .or k x y))
  | .xor => some (.int k (bitD .xor k x y))
  | .andNot => some (.int k (bitD .andNot k x y))
  | .eql => some (.bool (x == y))
  | .neq => some (.bool (x != y))
  | .lss => some (.bool (x < y))
  | .leq => some (.bool (x ≤ y))
  | .gtr => some (.bool (x > y))
  | .geq => some (.bool (x ≥ y))
  | _ => none

def strD (op : BinOp) (x y : ByteArray) : Option D :=
  match op with
  | .add => if ((x.size + y.size : Nat) : Int) > IntKind.i64.max then none else some (.str (x ++ y))
  | .eql => some (.bool (x.toList == y.toList))
  | .neq => some (.bool !(x.toList == y.toList))
  | .lss => some (.bool (Op.bytesLess x.toList y.toList))
  | .leq => some (.bool (Op.bytesLess x.toList y.toList || x.toList == y.toList))
  | .gtr => some (.bool !(Op.bytesLess x.toList y.toList || x.toList == y.toList))
  | .geq => some (.bool !Op.bytesLess x.toList y.toList)
  | _ => none

def shiftD (op : BinOp) (k : IntKind) (x y : Int) : Option D :=
  if y < 0 then none else
  match op with
  | .shl => some (.int k (k.wrap (x * 2 ^ (min y.toNat k.bits))))
  | .shr => some (.int k (x.fdiv (2 ^ (min y.toNat k.bits))))
  | _ => none

def isShift : BinOp → Bool
  | .shl | .shr => true
  | _ => false

def binD (T : Nat → Option Ty) (ty : Nat) (op : BinOp) (a b : D) : Option D :=
  match a, b with
  | .int k x, .int k' y => if isShift op then shiftD op k x y else if k = k' then intD op k x y else none
  | .str x, .str y => strD op x y
  | a, b =>
    match T ty with
    | some τ =>
      match op with
      | .eql => match eqD T τ a b with | some c => some (.bool c) | none => none
      | .neq => match eqD T τ a b with | some c => some (.bool !c) | none => none
      | _ => none
    | none => none

def unD (op : UnOp) : D → Option D
  | .int k n => match op with
    | .neg => some (.int k (k.wrap (0 - n)))
    | .xor => some (.int k (bitD .xor k (if k.signed then -1 else k.max) n))
    | _ => none
  | .bool b => match op with | .not => some (.bool !b) | _ => none
  | _ => none

mutual
def flatD : D → Bool
  | .int _ _ | .bool _ | .str _ => true
  | .agg xs | .tup xs => flatL xs
  | _ => false
def flatL : List D → Bool
  | [] => true
  | x :: xs => flatD x && flatL xs
end

def lenD : D → Option Nat
  | .str s => some s.size
  | .sl _ _ n _ => some n
  | .buf _ _ _ _ n => some n
  | _ => none

def maxL (f : Int → Int → Int) (k : IntKind) : Int → List D → Option Int
  | x, [] => some x
  | x, .int k' y :: r => if k = k' then maxL f k (f x y) r else none
  | _, _ => none

def effBuiltin (T : Nat → Option Ty) (h : Nat → Option Row) (e : Nat) (dst : Option Nat) (b : Builtin) (tys : List Nat) (args : List D) : Option Eff :=
  match b, tys, args with
  | .len, t :: _, [x] =>
    if alive h x then
      match T t, lenD x with
      | some τ, some n => match τ.ds, x with
        | .str, .str _ => some ⟨.int .i64 n, []⟩
        | .slice _, .sl _ _ _ _ => some ⟨.int .i64 n, []⟩
        | .slice _, .buf _ _ _ _ _ => some ⟨.int .i64 n, []⟩
        | _, _ => none
      | _, _ => none
    else none
  | .append, [t, t'], [s, x] =>
    if t = t' then
      match T t, dst with
      | some τ, some d => effAppend T τ h e d s x
      | _, _ => none
    else none
  | .max, _, .int k x :: r => match maxL (fun x y => if y > x then y else x) k x r with | some z => some ⟨.int k z, []⟩ | none => none
  | .min, _, .int k x :: r => match maxL (fun x y => if y < x then y else x) k x r with | some z => some ⟨.int k z, []⟩ | none => none
  | _, _, _ => none

/-- What a closure may hold on to. -/
def okCap : D → Bool
  | .buf _ _ _ _ _ | .clo _ _ _ | .und | .skp | .box1 _ _ _ _ _ => false
  | _ => true

/-- What a call leaves: data · its first argument, cut · a new slice that nobody else holds. -/
inductive RK where
  | clean (d : D)
  | same (s o n : Nat)
  | fresh (ty s n : Nat) (cells : List D)

/-- What is known of the callees: which of them are lent the row of their first argument; by what is lent, and the other arguments: the result, and what becomes of the lent row. -/
structure Env where
  lends : Nat → Bool
  sem : Nat → Option (D × Row) → List D → Option (RK × Option Row)
  own : Nat → Bool
  hint : Nat → Option Nat := fun _ => none
  ins : Nat → Option (Nat × Nat × Nat) := fun _ => none

/-- A call of which all arguments are only read. -/
def callC (Γ : Env) (h : Nat → Option Row) (e : Nat) (dst : Option Nat) (g : Nat) (args : List D) : Option Eff :=
  match cleanArgs h args with
  | some (as, fr) =>
    match Γ.sem g none as with
    | some (.clean r, _) => some ⟨r, if flatD r then [] else frz h fr⟩
    | some (.fresh ty s n cells, _) =>
      match dst with
      | some d => if fr.contains d = false then some ⟨.buf d e s 0 n, (if flatL cells then [] else frz h fr) ++ [(d, some ⟨e, ty, cells, false, true, false⟩)]⟩ else none
      | none => none
    | _ => none
  | none => none

/-- A call that is lent the row of its first argument. -/
def callL (Γ : Env) (h : Nat → Option Row) (e : Nat) (dst : Option Nat) (g x v : Nat) (d0 : D) (rest : List D) : Option Eff :=
  match live h x v with
  | some r =>
    if r.fz = false then
      match cleanArgs h rest with
      | some (as, fr) =>
        if fr.contains x = false then
          match Γ.sem g (some (d0, { r with v := 0 })) as with
          | some (.clean c, some r1) => some ⟨c, frz h fr ++ [(x, some { r1 with v := v })]⟩
          | some (.same s o n, some r1) => some ⟨.buf x v s o n, frz h fr ++ [(x, some { r1 with v := v })]⟩
          | some (.fresh ty s n cells, none) =>
            match dst with
            | some d => if fr.contains d = false then some ⟨.buf d e s 0 n, frz h fr ++ [(x, none), (d, some ⟨e, ty, cells, false, true, false⟩)]⟩ else none
            | none => none
          | _ => none
        else none
      | none => none
    else none
  | none => none

/-- The library's insertion of a list into an own one: both are given away. p: the elements' type, their cells, their bytes. -/
def callI (h : Nat → Option Row) (e : Nat) (dst : Option Nat) (p : Nat × Nat × Nat) (args : List D) : Option Eff :=
  match args with
  | [.buf x v s o n, .int .i64 i, .buf y v' s' o' m] =>
    match live h x v, live h y v', dst with
    | some r, some r', some d =>
      if r.fz = false ∧ r'.fz = false ∧ r.lst = true ∧ r'.lst = true ∧ x ≠ y ∧ s = p.2.1 ∧ s' = p.2.1 ∧ r.ty = p.1 ∧ r'.ty = p.1 ∧ o = 0 ∧ o' = 0 ∧ r.cells.length = n * p.2.1 ∧ r'.cells.length = m * p.2.1 ∧ 0 ≤ i ∧ i ≤ n ∧ 0 < m ∧ (n + m) * p.2.2 ≤ 140737488355328 then
        some ⟨.buf d e p.2.1 0 (n + m), [(y, none), (x, none), (d, some ⟨e, p.1, r.cells.take (i.toNat * p.2.1) ++ (r'.cells ++ r.cells.drop (i.toNat * p.2.1)), false, true, false⟩)]⟩
      else none
    | _, _, _ => none
  | _ => none

def effCall (Γ : Env) (h : Nat → Option Row) (e : Nat) (dst : Option Nat) (f : D) (args : List D) : Option Eff :=
  match f with
  | .fn g =>
    match Γ.ins g with
    | some p => callI h e dst p args
    | none =>
    if Γ.lends g then
      match args with
      | .buf x v s o n :: rest => callL Γ h e dst g x v (.buf 0 0 s o n) rest
      | .ptr x v o :: rest => callL Γ h e dst g x v (.ptr 0 0 o) rest
      | _ => none
    else callC Γ h e dst g args
  | .clo g kk caps => if caps.all okCap then callC Γ h e dst g (caps.take kk ++ (args ++ caps.drop kk)) else none
  | _ => none

/-- An own slice that is assigned to a variable moves to it; nil is an own slice of nothing. -/
def effAssign (T : Nat → Option Ty) (ty e : Nat) (dst : Option Nat) (h : Nat → Option Row) (x : D) : Option Eff :=
  match x with
  | .buf y v s o n =>
    match dst, live h y v with
    | some d, some r => if r.fz then some ⟨.buf y v s o n, []⟩ else some ⟨.buf d e s o n, [(y, none), (d, some { r with v := e })]⟩
    | _, _ => some ⟨.und, []⟩
  | .sl true true 0 [] =>
    match dst, T ty with
    | some d, some τ =>
      match τ.ds with
      | .slice el => match T el with | some φ => some ⟨.buf d e φ.size 0 0, [(d, some ⟨e, el, [], false, true, false⟩)]⟩ | none => none
      | _ => none
    | _, _ => none
  | x => some ⟨x, []⟩

/-- Clean data: one cell, or a struct's cells. -/
def clean2 (h : Nat → Option Row) : D → Option (D × List Nat)
  | .agg xs => some (.agg xs, [])
  | d => clean1 h d

/-- An assignment that leaves clean data. -/
def effClean (h : Nat → Option Row) (x : D) : Option Eff :=
  match clean2 h x with
  | some (d', fr) => some ⟨canonA d', frz h fr⟩
  | none => none

/-- An assignment: to a variable that may hold own slices, or to one that holds clean data. -/
def effAsg (T : Nat → Option Ty) (q : Nat → Bool) (ty e : Nat) (dst : Option Nat) (h : Nat → Option Row) (x : D) : Option Eff :=
  match dst with
  | some d => if q d then effAssign T ty e (some d) h x else effClean h x
  | none => effAssign T ty e none h x

/-- The effect of one operation: the value that it leaves, and what becomes of the own rows. -/
def eff (T : Nat → Option Ty) (Γ : Env) (e : Nat) (o : Oper) (vs : Operand → D) (h : Nat → Option Row) : Option Eff :=
  match o.op with
  | .move x => some ⟨vs x, []⟩
  | .assign x => effAsg T Γ.own o.type e o.dst h (vs x)
  | .pick c a b => match vs c with | .bool true => some ⟨vs a, []⟩ | .bool false => some ⟨vs b, []⟩ | _ => none
  | .alloc ty => match T ty, o.dst with
    | some τ, some d => if (τ.zero.map ofV).all plainC then some ⟨match Γ.hint d with | some y => .pm d e y | none => .ptr d e 0, [(d, some ⟨e, ty, τ.zero.map ofV, false, false, false⟩)]⟩ else none
    | _, _ => none
  | .box ty x => match o.dst, cellsV h (vs x) with
    | some d, some (cs, fr) => if fr.contains d = false then some ⟨.ptr d e 0, frz h fr ++ [(d, some ⟨e, ty, cs, false, false, false⟩)]⟩ else none
    | _, _ => none
  | .load ty p => match T ty with | some τ => effLd τ h (vs p) | none => none
  | .store ty p x => match T ty with | some τ => effSto τ h (vs p) (vs x) | none => none
  | .nilCheck x => effNil h (vs x)
  | .fieldAddr ty x i => match T ty with | some τ => effField T τ h i (vs x) | none => none
  | .field ty x i => match T ty with | some τ => effPart T τ i (vs x) | none => none
  | .indexAddr ty x i => match T ty with | some τ => effIndexAddr T τ h (vs x) (vs i) | none => none
  | .index ty x i => match T ty with | some τ => effIndex T τ (vs x) (vs i) | none => none
  | .slice ty x lo hi mx => match T ty with | some τ => effSlice T τ h (vs x) (lo.map vs) (hi.map vs) (mx.map vs) | none => none
  | .build ty parts => match T ty with | some τ => effBld Γ.own T τ h o.dst (parts.toList.map fun p => (p.1, vs p.2)) | none => none
  | .buildSlice ty len parts => match T ty, o.dst with | some τ, some d => effBuildSlice T τ h e d len (parts.toList.map fun p => (p.1, vs p.2)) | _, _ => none
  | .makeSlice ty l c => match T ty, o.dst with | some τ, some d => effMake T τ e d (vs l) (vs c) | _, _ => none
  | .binOp op ty x y _ => match binD T ty op (vs x) (vs y) with | some d => some ⟨d, []⟩ | none => none
  | .unOp op _ x => match unD op (vs x) with | some d => some ⟨d, []⟩ | none => none
  | .convert src dst x => match T dst, T src, vs x with
    | some τ, some _, .int _ n => (match τ.ds with | .int k => some ⟨.int k (k.wrap n), []⟩ | _ => none)
    | _, _, _ => none
  | .makeFunc fn first caps => match fn with | .func f => if (first.toList.map vs ++ caps.toList.map vs).all okCap then some ⟨.clo f first.size (first.toList.map vs ++ caps.toList.map vs), []⟩ else none | _ => none
  | .makeMap ty none => match T ty, o.dst with | some τ, some d => effMakeMap T ty τ e d | _, _ => none
  | .lookup ty m i ok => match T ty with | some τ => effLookup T τ h (vs m) (vs i) ok | none => none
  | .insert ty m i x => match T ty with | some τ => effMapUpdate T τ h (vs m) (vs i) (vs x) | none => none
  | .mapUpdate ty m i x => match T ty with | some τ => effMapUpdate T τ h (vs m) (vs i) (vs x) | none => none
  | .extract t i => match vs t with | .tup xs => (match xs[i]? with | some d => some ⟨d, []⟩ | none => none) | _ => none
  | .call c => match c.callee with
    | .value f => effCall Γ h e o.dst (vs f) (c.args.toList.map vs)
    | .builtin b => effBuiltin T h e o.dst b c.argTypes.toList (c.args.toList.map vs)
    | _ => none
  | _ => none

/-- Which own rows an operation may look at. -/
def touch (o : Oper) (vs : Operand → D) : List Nat :=
  match o.op with
  | .move _ | .pick _ _ _ => []
  | .makeFunc _ _ _ => []
  | op => (op.operands.toList.flatMap fun x => nm (vs x)) ++ o.dst.toList
end Go.Proofs.YtdecgihkgpgejaaDoor.Am
