/- The memory-free machine, part 8: equality of structs, the other operations, calls, append; then every operation. -/
import Derived.Test.YtdecgihkgpgejaaDoorAt
namespace Go.Proofs.YtdecgihkgpgejaaDoor.Am
open Go.RowKit
set_option linter.unusedSimpArgs false
set_option linter.unusedVariables false

section
variable {P : Program} {T : Nat → Option Ty} {N : Nat} {M : Nat → Prop} {L : Lent} {w0 : World} {blk : Nat → Option (Nat × Nat)} {V : Nat → Nat → Prop} {t : Nat → D} {h : Nat → Option Row} {a : Act} {w : World} {e : Nat} {o : Oper} {Γ : Env}

theorem run_eqC (hT : TOk P T) {ft : Nat} {φ : Ty} (hφ : T ft = some φ) (hs : scalarDs φ.ds = true) {x y : D} {u v : Value} {b : Bool} {M' : Nat → Prop} (hx : RP w M' x u) (hy : RP w M' y v) (hb : eqC x y = some b) (n : Nat) :
    (∃ d, P.underlying ft = some d) ∧ ((∃ k, φ.ds = .int k ∧ ∃ k' i j, x = .int k' i ∧ y = .int k' j) ∨ (φ.ds = .bool ∧ ∃ i j, x = .bool i ∧ y = .bool j) ∨ (φ.ds = .str ∧ ∃ i j, x = .str i ∧ y = .str j) → (Op.equalIn (n + 1) ft u v).run P w = .ok b w) := by
  obtain ⟨d, hd, hc⟩ := under hT hφ
  refine ⟨⟨d, hd⟩, ?_⟩
  rintro (⟨k, hk, k', i, j, rfl, rfl⟩ | ⟨hk, i, j, rfl, rfl⟩ | ⟨hk, i, j, rfl, rfl⟩)
  · rw [hk] at hc
    have := conv_int hc
    subst this
    cases hx; cases hy
    simp only [eqC, if_true, Option.some.injEq] at hb
    subst hb
    simp [Op.equalIn, run_underlying hd]
  · rw [hk] at hc
    have := conv_bool hc
    subst this
    cases hx; cases hy
    simp only [eqC, Option.some.injEq] at hb
    subst hb
    simp [Op.equalIn, run_underlying hd]
  · rw [hk] at hc
    have := conv_str hc
    subst this
    cases hx; cases hy
    simp only [eqC, Option.some.injEq] at hb
    subst hb
    simp [Op.equalIn, run_underlying hd]

theorem eqC_kinds {x y : D} {b : Bool} {s : Ds} (hb : eqC x y = some b) (hk : kindOk s x = true) :
    (∃ k, s = .int k ∧ ∃ k' i j, x = .int k' i ∧ y = .int k' j) ∨ (s = .bool ∧ ∃ i j, x = .bool i ∧ y = .bool j) ∨ (s = .str ∧ ∃ i j, x = .str i ∧ y = .str j) := by
  cases x <;> cases y <;> simp only [eqC] at hb <;> try (cases hb; done)
  · rename_i k i k' j
    split at hb
    · rename_i he
      subst he
      cases s <;> simp [kindOk] at hk
      exact .inl ⟨_, rfl, _, _, _, rfl, rfl⟩
    · cases hb
  · cases s <;> simp [kindOk] at hk
    exact .inr (.inl ⟨rfl, _, _, rfl, rfl⟩)
  · cases s <;> simp [kindOk] at hk
    exact .inr (.inr ⟨rfl, _, _, rfl, rfl⟩)

theorem does_extract (hI : Inv N M L w0 blk V t h a w) {x : Operand} {i : Nat} {xs : List D} {d : D} (ho : o.op = .extract x i) (hx : ev t x = .tup xs) (hd : xs[i]? = some d) : Does P o a w (After N M L w0 V t h a e o.dst ⟨d, []⟩) := by
  have hp := hI.ev x
  rw [hx] at hp
  have hp' : RP w (Own M h blk) (.tup xs) (a.eval x) := hp
  generalize hu : a.eval x = u at *
  cases hp' with
  | tup xs us h1 h2 =>
    have hlt := (List.getElem?_eq_some_iff.1 hd).1
    refine does_value (v := us.getD i undef) (w' := w) ?_ (After.pure_ hI (RT_of_RP (h2 i d hd)))
    have hget : us[i]? = some (us.getD i undef) := by simp [List.getD, List.getElem?_eq_getElem (show i < us.length by omega)]
    generalize us.getD i undef = v at *
    simp [execOp, ho, Instr.extract, hu, hget]

theorem does_convert (hT : TOk P T) (hI : Inv N M L w0 blk V t h a w) {x : Operand} {src ty : Nat} {τ σ : Ty} {k k' : IntKind} {n : Int} (ho : o.op = .convert src ty x) (hτ : T ty = some τ) (hσ : T src = some σ) (hds : τ.ds = .int k') (hx : ev t x = .int k n) :
    Does P o a w (After N M L w0 V t h a e o.dst ⟨.int k' (k'.wrap n), []⟩) := by
  have hp := hI.ev x
  rw [hx] at hp
  have hu := RT_int hp
  obtain ⟨d, hd, hc⟩ := under hT hτ
  obtain ⟨d2, hd2, _⟩ := under hT hσ
  rw [hds] at hc
  have := conv_int hc
  subst this
  refine does_value (v := .int k' (k'.wrap n)) (w' := w) ?_ (After.pure_ hI (RT_of_RP (.int _ _)))
  have := run_convert_int (P := P) (w := w) src ty k n (by simp [hd2])
  simp [execOp, ho, hu, convert, run_underlying hd, run_underlying hd2, Conv.intToInt]

theorem does_unOp (hI : Inv N M L w0 blk V t h a w) {x : Operand} {op : UnOp} {ty : Nat} {d : D} (ho : o.op = .unOp op ty x) (hd : unD op (ev t x) = some d) : Does P o a w (After N M L w0 V t h a e o.dst ⟨d, []⟩) := by
  have hp := hI.ev x
  generalize ev t x = q at *
  cases q with
  | int k n =>
    have hu := RT_int hp
    cases op <;> simp only [unD, Option.some.injEq] at hd <;> try (cases hd; done)
    all_goals
      subst hd
      refine does_value (w' := w) ?_ (After.pure_ hI (RT_of_RP (.int _ _)))
      simp [execOp, ho, hu, Op.unary, Op.intArith, Op.intBits, bitD]
  | bool b =>
    have hu := RT_bool hp
    cases op <;> simp only [unD, Option.some.injEq] at hd <;> try (cases hd; done)
    all_goals
      subst hd
      refine does_value (w' := w) ?_ (After.pure_ hI (RT_of_RP (.bool _)))
      simp [execOp, ho, hu, Op.unary]
  | _ => simp [unD] at hd

theorem flatL_mem : ∀ {xs : List D}, flatL xs = true → ∀ x ∈ xs, flatD x = true
  | [], _, x, hx => by simp at hx
  | y :: ys, h, x, hx => by
    simp only [flatL, Bool.and_eq_true] at h
    rcases List.mem_cons.1 hx with rfl | hx
    · exact h.1
    · exact flatL_mem h.2 x hx

theorem RP.flat {M1 M2 : Nat → Prop} {d : D} {u : Value} (hr : RP w M1 d u) (hf : flatD d = true) : RP w M2 d u := by
  induction hr with
  | int k n => exact .int k n
  | bool b => exact .bool b
  | str s => exact .str s
  | sl A c nl tight n xs us h1 h2 h3 h4 h5 h6 h7 h8 ih => simp [flatD] at hf
  | agg xs us h1 h2 h3 ih =>
    simp only [flatD] at hf
    exact .agg xs us h1 (fun j x hj => ih j x hj (flatL_mem hf x (List.mem_of_getElem? hj))) h3
  | tup xs us h1 h2 ih =>
    simp only [flatD] at hf
    exact .tup xs us h1 (fun j x hj => ih j x hj (flatL_mem hf x (List.mem_of_getElem? hj)))
  | ip xs ad us h6 h7 h8 ih => simp [flatD] at hf
  | fn f => exact .fn f
  | ali x v s o n u h1 => simp [flatD] at hf
  | mpc ks vs mb us h1 h2 h3 h4 ih => simp [flatD] at hf
  | alm x v u h1 => simp [flatD] at hf
  | clo f kk xs us h1 h2 ih => simp [flatD] at hf

theorem own_forget {h : Nat → Option Row} {blk : Nat → Option (Nat × Nat)} {old : Option Nat} {b : Nat} (hb : Own M (forget h old) blk b) : Own M h blk b := by
  rcases hb with hb | ⟨x, r, g, hx, hz, hg, he⟩
  · exact .inl hb
  · refine .inr ⟨x, r, g, ?_, hz, hg, he⟩
    cases old with
    | none => exact hx
    | some y =>
      simp only [forget] at hx
      by_cases hxy : x = y
      · subst hxy; simp [upd] at hx
      · rwa [upd_ne _ _ hxy] at hx

/-- A new slice, that a call has made, or made out of an own one. -/
theorem Inv.fresh (hI : Inv N M L w0 blk V t h a w) {w' : World} {v : Value} {d ty s n : Nat} {cells : List D} {old dst : Option Nat} (hd : dst = some d) (hV : ¬ V d e)
    (hb : Beyond (fun b => ∃ y g, old = some y ∧ blk y = some g ∧ b = g.1) w w') (hold : ∀ y, old = some y → ∃ r, h y = some r ∧ r.fz = false)
    (hg : (∃ (g : Nat × Nat) (c : Nat) (cs : Array Value), v = .slice (some ⟨g.1, g.2, none⟩) n c ∧ (w.heap.size ≤ g.1 ∨ ∃ y g0, old = some y ∧ blk y = some g0 ∧ g.1 = g0.1) ∧ w'.heap[g.1]? = some (.cells cs ty (0, 0)) ∧ n ≤ c ∧ c ≤ maxLen ∧ c * s + g.2 = cs.size ∧ g.2 + cells.length ≤ cs.size ∧
      ∀ (j : Nat) d, cells[j]? = some d → plainC d = true ∧ RP w' (fun b => Own M (forget h old) blk b ∨ b = g.1) d (cs.getD (g.2 + j) undef)) ∨ (n = 0 ∧ cells = [] ∧ ∃ A, v = .slice A 0 0)) :
    ∃ blk', Inv N M L w0 blk' (fun x k => V x k ∨ (dst = some x ∧ k = e)) t (upd (forget h old) d (some ⟨e, ty, cells, false, true, false⟩)) a w' ∧
      RT w' (Own M (upd (forget h old) d (some ⟨e, ty, cells, false, true, false⟩)) blk') (upd (forget h old) d (some ⟨e, ty, cells, false, true, false⟩)) blk' (fun x k => V x k ∨ (dst = some x ∧ k = e)) (.buf d e s 0 n) v := by
  have hW : ∀ {blk' : Nat → Option (Nat × Nat)}, Inv N M L w0 blk' (fun x k => V x k ∨ (x = d ∧ k = e)) t (upd (forget h old) d (some ⟨e, ty, cells, false, true, false⟩)) a w' → Inv N M L w0 blk' (fun x k => V x k ∨ (dst = some x ∧ k = e)) t (upd (forget h old) d (some ⟨e, ty, cells, false, true, false⟩)) a w' := fun hJ => hJ.weaken fun x k hx => by
    rcases hx with hx | ⟨rfl, rfl⟩
    · exact .inl hx
    · exact .inr ⟨hd, rfl⟩
  rcases hg with ⟨g, c, cs, rfl, g1, g2, g3, g4, g5, g6, g7⟩ | ⟨rfl, rfl, A, rfl⟩
  · refine ⟨upd blk d (some g), hW (hI.adoptN (old := old) hb.os hb.tape hb.output hb.size (fun k hk hn => hb.block k hk (fun ⟨y, g0, h1, h2, h3⟩ => hn y g0 h1 h2 h3)) hold rfl hV ⟨g1, cs, g2, g6, g7⟩), ?_⟩
    exact RT_buf_new (.inr ⟨hd, rfl⟩) (upd_same _ _ _) g2 g3 g4 g5
  · refine ⟨upd blk d none, hW (hI.adoptN (go := none) (old := old) hb.os hb.tape hb.output hb.size (fun k hk hn => hb.block k hk (fun ⟨y, g0, h1, h2, h3⟩ => hn y g0 h1 h2 h3)) hold rfl hV rfl), ?_⟩
    exact ⟨.inr ⟨hd, rfl⟩, fun _ _ _ => .inr ⟨upd_same _ _ _, rfl, A, rfl⟩⟩

theorem RP.less {M1 M2 : Nat → Prop} {d : D} {u : Value} (hr : RP w M1 d u) (hm : ∀ b, M2 b → M1 b) : RP w M2 d u := hr.keep fun _ h1 h2 => ⟨h1, fun hb => h2 (hm _ hb), rfl⟩

theorem Inv.argsR (hI : Inv N M L w0 blk V t h a w) {ds as : List D} {fr : List Nat} {vs : Array Value} {M' : Nat → Prop} (hca : Am.cleanArgs h ds = some (as, fr)) (hl : Less M h blk fr M') (hsz : vs.size = ds.length)
    (hr : ∀ (j : Nat) d, ds[j]? = some d → RT w (Own M h blk) h blk V d (vs.getD j undef)) : ArgsR w M' as vs := by
  obtain ⟨i1, i2⟩ := hI.cleanArgs (us := vs.toList) hca hl (by simpa using hsz) (fun j d hj => by have := hr j d hj; simpa [List.getD] using this)
  refine ⟨by simpa using i1, fun j d hj => ?_, fun b hb => (hI.tab b hb).less hl.le⟩
  have := i2 j d hj
  simpa [List.getD] using this

theorem callC_ok (hΓ : GOk P Γ) (hI : Inv N M L w0 blk V t h a w) {g : Nat} {dst : Option Nat} {E : Eff} {ds : List D} {vs : Array Value} (hE : callC Γ h e dst g ds = some E) (hV : ∀ d, dst = some d → ¬ V d e) (hsz : vs.size = ds.length)
    (hr : ∀ (j : Nat) d, ds[j]? = some d → RT w (Own M h blk) h blk V d (vs.getD j undef)) : Callable P g ∧ Calls P g vs w fun e' w' => ∃ v, e' = .returned v ∧ After N M L w0 V t h a e dst E v w' := by
  unfold callC at hE
  split at hE
  · rename_i as fr hca
    split at hE
    · rename_i r out hs
      simp only [Option.some.injEq] at hE
      subst hE
      obtain ⟨hcalls, hcl⟩ := hΓ.calls g none as _ _ hs
      refine ⟨hcl, ?_⟩
      by_cases hflat : flatD r = true
      · refine (hcalls w _ vs (fun b hb => hI.own_lt hb.1) (hI.argsR hca (hI.less_lend fr) hsz hr)).mono fun e' w' hg => ?_
        obtain ⟨v, he, hb, hv⟩ := hg
        refine ⟨v, he, ?_⟩
        rw [if_pos hflat]
        exact After.pure_ (hI.later hb) (RT_of_RP (RP.flat hv hflat))
      · have hIf := hI.freeze fr
        refine (hcalls w _ vs (fun b hb => hIf.own_lt hb) (hI.argsR hca (hI.less_freeze fr) hsz hr)).mono fun e' w' hg => ?_
        obtain ⟨v, he, hb, hv⟩ := hg
        refine ⟨v, he, ?_⟩
        rw [if_neg hflat]
        exact ⟨blk, (hIf.later hb).weaken fun _ _ h => .inl h, RT_of_RP hv⟩
    · rename_i ty s n cells out hs
      split at hE
      · rename_i d
        split at hE
        · rename_i hfr
          simp only [Option.some.injEq] at hE
          subst hE
          obtain ⟨hcalls, hcl⟩ := hΓ.calls g none as _ _ hs
          refine ⟨hcl, ?_⟩
          by_cases hflat : flatL cells = true
          · refine (hcalls w _ vs (fun b hb => hI.own_lt hb.1) (hI.argsR hca (hI.less_lend fr) hsz hr)).mono fun e' w' hg => ?_
            obtain ⟨v, he, hb, hv⟩ := hg
            refine ⟨v, he, ?_⟩
            rw [if_pos hflat]
            exact hI.fresh (old := none) rfl (hV d rfl) (Beyond.of_below hb) (fun y hy => by cases hy) (by
              rcases hv with ⟨g, c, cs, h1, h2, h3, h4, h5, h6, h7, h8⟩ | hv
              · exact .inl ⟨g, c, cs, h1, .inl (h2.resolve_right id), h3, h4, h5, h6, h7, fun j x hj => ⟨(h8 j x hj).1, (h8 j x hj).2.flat (flatL_mem hflat x (List.mem_of_getElem? hj))⟩⟩
              · exact .inr hv)
          · have hIf := hI.freeze fr
            refine (hcalls w _ vs (fun b hb => hIf.own_lt hb) (hI.argsR hca (hI.less_freeze fr) hsz hr)).mono fun e' w' hg => ?_
            obtain ⟨v, he, hb, hv⟩ := hg
            refine ⟨v, he, ?_⟩
            rw [if_neg hflat]
            have := hIf.fresh (e := e) (ty := ty) (s := s) (cells := cells) (n := n) (v := v) (old := none) (dst := some d) rfl (hV d rfl) (Beyond.of_below hb) (fun y hy => by cases hy) (by
              rcases hv with ⟨g, c, cs, h1, h2, h3, h4, h5, h6, h7, h8⟩ | hv
              · exact .inl ⟨g, c, cs, h1, .inl (h2.resolve_right id), h3, h4, h5, h6, h7, h8⟩
              · exact .inr hv)
            unfold After
            rw [applyH_one]
            exact this
        · cases hE
      · cases hE
    · cases hE
  · cases hE

/-- The value of a slot that is lent. -/
theorem Inv.lentV (hI : Inv N M L w0 blk V t h a w) {x v : Nat} {r : Row} (hl : live h x v = some r) {u : Value} : (∀ s o n, RT w (Own M h blk) h blk V (.buf x v s o n) u → LentV w (blk x) (.buf 0 0 s o n) u) ∧ (∀ o, RT w (Own M h blk) h blk V (.ptr x v o) u → LentV w (blk x) (.ptr 0 0 o) u) := by
  obtain ⟨hx, hv⟩ := live_some hl
  exact ⟨fun s o n hr => ⟨trivial, fun r' _ _ => hr.2 r hx hv⟩, fun o hr => ⟨trivial, fun r' _ _ => hr.2 r hx hv⟩⟩

theorem callL_ok (hΓ : GOk P Γ) (hI : Inv N M L w0 blk V t h a w) {g x v : Nat} {d0 : D} {dst : Option Nat} {E : Eff} {ds : List D} {u0 : Value} {vs : Array Value} (hE : callL Γ h e dst g x v d0 ds = some E) (hV : ∀ d, dst = some d → ¬ V d e) (hVx : V x v)
    (h0 : ∀ r, live h x v = some r → LentV w (blk x) d0 u0) (hsz : vs.size = ds.length) (hr : ∀ (j : Nat) d, ds[j]? = some d → RT w (Own M h blk) h blk V d (vs.getD j undef)) :
    Callable P g ∧ Calls P g (#[u0] ++ vs) w fun e' w' => ∃ v, e' = .returned v ∧ After N M L w0 V t h a e dst E v w' := by
  unfold callL at hE
  split at hE
  · rename_i r hl
    obtain ⟨hx, hv⟩ := live_some hl
    split at hE
    · rename_i hz
      split at hE
      · rename_i as fr hca
        split at hE
        · rename_i hfr
          have hIf := hI.freeze fr
          have hxf : applyH h (frz h fr) x = some r := by rw [frz_notin hfr]; exact hx
          have hgo : ∀ b, In0 (blk x) b → Own M (applyH h (frz h fr)) blk b := fun b ⟨g0, hg0, he⟩ => .inr ⟨x, r, g0, hxf, hz, hg0, he.symm⟩
          have hle : ∀ b, ((Own M (applyH h (frz h fr)) blk b ∧ ¬ In0 (blk x) b) ∨ In0 (blk x) b) → Own M (applyH h (frz h fr)) blk b := fun b hb => hb.elim (·.1) (hgo b)
          have hargs := hI.argsR hca (hI.less_freeze fr) hsz hr
          have hargs' : ArgsR w (fun b => (Own M (applyH h (frz h fr)) blk b ∧ ¬ In0 (blk x) b) ∨ In0 (blk x) b) as vs := ⟨hargs.1, fun j d hj => (hargs.2 j d hj).less hle, fun b hb => (hargs.tab b hb).less hle⟩
          have hrow : RowIn w (fun b => (Own M (applyH h (frz h fr)) blk b ∧ ¬ In0 (blk x) b) ∨ In0 (blk x) b) (blk x) { r with v := 0 } := by
            have := (hIf.rows x r hxf).2
            cases hg : blk x with
            | none => rw [hg] at this; exact this
            | some g0 =>
              rw [hg] at this hle
              have k0 := this.2
              unfold RowIs at k0
              rw [live_mp hl] at k0
              obtain ⟨cs, k1, k2, k3⟩ := k0
              exact ⟨cs, k1, k2, fun j d hj => ⟨(k3 j d hj).1, (k3 j d hj).2.less hle⟩⟩
          have hown : ∀ (r2 : Option Row) b, Own M (upd (applyH h (frz h fr)) x r2) blk b → (Own M (applyH h (frz h fr)) blk b ∧ ¬ In0 (blk x) b) ∨ In0 (blk x) b := by
            intro r2 b hb
            by_cases hi : In0 (blk x) b
            · exact .inr hi
            · refine .inl ⟨?_, hi⟩
              rcases hb with hb | ⟨y, s, g0, hy, hz', hg0, he⟩
              · exact .inl hb
              · by_cases hyx : y = x
                · subst hyx; exact absurd ⟨g0, hg0, he.symm⟩ hi
                · rw [upd_ne _ _ hyx] at hy
                  exact .inr ⟨y, s, g0, hy, hz', hg0, he⟩
          have key : ∀ {rk : RK} {out : Option Row}, Γ.sem g (some (d0, { r with v := 0 })) as = some (rk, out) → Callable P g ∧ Calls P g (#[u0] ++ vs) w fun e' w' => ∃ u, e' = .returned u ∧ Beyond (In0 (blk x)) w w' ∧
              (∀ r1, out = some r1 → Inv N M L w0 blk V t (upd (applyH h (frz h fr)) x (some { r1 with v := v })) a w' ∧ r1.ty = r.ty) ∧
              (match rk with
               | .same s o n => LentV w' (blk x) (.buf 0 0 s o n) u
               | .clean d => RP w' (fun b => (Own M (applyH h (frz h fr)) blk b ∧ ¬ In0 (blk x) b) ∨ In0 (blk x) b) d u
               | .fresh ty s n cells => GivesK w w' (fun b => Own M (applyH h (frz h fr)) blk b ∧ ¬ In0 (blk x) b) (In0 (blk x)) u (.fresh ty s n cells)) := by
            intro rk out hs
            obtain ⟨hcalls, hcl⟩ := hΓ.calls g _ as _ _ hs
            refine ⟨hcl, ?_⟩
            refine (hcalls w (fun b => Own M (applyH h (frz h fr)) blk b ∧ ¬ In0 (blk x) b) (blk x) u0 vs (fun b hb => hIf.own_lt hb.1) (fun b hb hb' => hb'.2 hb) hz (live_mp (r := r) hl : r.mp = false) hrow (h0 r hl) hargs').mono fun e' w' hg => ?_
            obtain ⟨u, he, hb, ho, hk⟩ := hg
            refine ⟨u, he, hb, fun r1 hr1 => ?_, hk⟩
            subst hr1
            obtain ⟨o1, o2, omp, o3, o4⟩ := ho
            refine ⟨?_, o1⟩
            have := hIf.rewrite (cs := r1.cells) (lst := r1.lst) (fz := r1.fz) (w' := w') hxf hz hb.os hb.tape hb.output hb.size (fun b hb1 hb2 => hb.block b hb1 (fun ⟨g0, hg0, he⟩ => hb2 g0 hg0 he)) (by
              cases hg : blk x with
              | none => rw [hg] at o4; exact o4
              | some g0 =>
                rw [hg] at o3 o4
                obtain ⟨cs, k1, k2, k3⟩ := o4
                simp only at o1
                rw [o1] at k1
                refine ⟨o3 g0 rfl, cs, k1, k2, fun j d hj => ⟨(k3 j d hj).1, (k3 j d hj).2.less fun b hb => ?_⟩⟩
                by_cases hi : In0 (some g0) b
                · exact .inr hi
                · exact .inl ⟨hb, hi⟩) (fun h => by rw [o2] at h; cases h)
            have e1 : ({ r1 with v := v } : Row) = ⟨r.v, r.ty, r1.cells, r1.fz, r1.lst, false⟩ := by
              cases r1
              simp only at o1 omp
              simp [o1, hv, omp]
            rw [e1]
            exact this
          split at hE
          · rename_i c r1 hs
            simp only [Option.some.injEq] at hE
            subst hE
            obtain ⟨hcl, hcalls⟩ := key hs
            refine ⟨hcl, hcalls.mono fun e' w' hg => ?_⟩
            obtain ⟨u, he, hb, ho, hk⟩ := hg
            refine ⟨u, he, blk, ?_, ?_⟩
            · rw [applyH_one]; exact (ho r1 rfl).1.weaken fun _ _ h => .inl h
            · rw [applyH_one]; exact RT_of_RP (RP.less hk (hown _))
          · rename_i s o' n r1 hs
            simp only [Option.some.injEq] at hE
            subst hE
            obtain ⟨hcl, hcalls⟩ := key hs
            refine ⟨hcl, hcalls.mono fun e' w' hg => ?_⟩
            obtain ⟨u, he, hb, ho, hk⟩ := hg
            refine ⟨u, he, blk, ?_, ?_⟩
            · rw [applyH_one]; exact (ho r1 rfl).1.weaken fun _ _ h => .inl h
            · rw [applyH_one]
              exact ⟨.inl hVx, fun r' _ _ => hk.2 ⟨0, 0, [], false, false, false⟩ rfl rfl⟩
          · rename_i ty s n cells hs
            split at hE
            · rename_i d
              split at hE
              · rename_i hd
                simp only [Option.some.injEq] at hE
                subst hE
                obtain ⟨hcl, hcalls⟩ := key hs
                refine ⟨hcl, hcalls.mono fun e' w' hg => ?_⟩
                obtain ⟨u, he, hb, _, hk⟩ := hg
                refine ⟨u, he, ?_⟩
                have := hIf.fresh (e := e) (ty := ty) (s := s) (cells := cells) (n := n) (v := u) (old := some x) (dst := some d) rfl (hV d rfl) (w' := w') ⟨hb.os, hb.tape, hb.output, hb.size, fun k hk hn => hb.block k hk (fun ⟨g0, hg0, he⟩ => hn ⟨x, g0, rfl, hg0, he⟩)⟩ (fun y hy => by cases hy; exact ⟨r, hxf, hz⟩) (by
                  rcases hk with ⟨g, c, cs, h1, h2, h3, h4, h5, h6, h7, h8⟩ | hv
                  · refine .inl ⟨g, c, cs, h1, h2.imp id (fun ⟨g0, hg0, he⟩ => ⟨x, g0, rfl, hg0, he⟩), h3, h4, h5, h6, h7, fun j y hj => ⟨(h8 j y hj).1, ?_⟩⟩
                    refine (h8 j y hj).2.less fun b hb => ?_
                    rcases hb with hb | hb
                    · refine .inl ⟨?_, ?_⟩
                      · rcases hb with hb | ⟨z, s', g0, hz1, hz2, hz3, hz4⟩
                        · exact .inl hb
                        · simp only [forget] at hz1
                          by_cases hzx : z = x
                          · subst hzx; simp [upd] at hz1
                          · rw [upd_ne _ _ hzx] at hz1
                            exact .inr ⟨z, s', g0, hz1, hz2, hz3, hz4⟩
                      · rintro ⟨g1, hg1, he1⟩
                        rcases hb with hb | ⟨z, s', g0, hz1, hz2, hz3, hz4⟩
                        · rw [he1] at hb
                          exact hIf.notM hxf hg1 hb
                        · simp only [forget] at hz1
                          by_cases hzx : z = x
                          · subst hzx; simp [upd] at hz1
                          · rw [upd_ne _ _ hzx] at hz1
                            exact hzx (hIf.inj z x s' r g0 g1 hz1 hxf hz3 hg1 (hz4.trans he1))
                    · exact .inr hb
                  · exact .inr hv)
                unfold After
                have e1 : frz h fr ++ [(x, none), (d, some ⟨e, ty, cells, false, true, false⟩)] = (frz h fr ++ [(x, none)]) ++ [(d, some ⟨e, ty, cells, false, true, false⟩)] := by simp
                rw [e1, applyH_one, applyH_one]
                exact this
              · cases hE
            · cases hE
          · cases hE
        · cases hE
      · cases hE
    · cases hE
  · cases hE

/-- Two lists alike, place by place. -/
inductive Rel2 (Q : D → Value → Prop) : List D → List Value → Prop
  | nil : Rel2 Q [] []
  | cons {d : D} {u : Value} {ds : List D} {us : List Value} (h : Q d u) (hs : Rel2 Q ds us) : Rel2 Q (d :: ds) (u :: us)
theorem Rel2.length {Q : D → Value → Prop} {ds : List D} {us : List Value} (h : Rel2 Q ds us) : us.length = ds.length := by
  induction h with
  | nil => rfl
  | cons h hs ih => simp [ih]
theorem Rel2.of {Q : D → Value → Prop} : ∀ {ds : List D} {us : List Value}, us.length = ds.length → (∀ (j : Nat) d, ds[j]? = some d → Q d (us.getD j undef)) → Rel2 Q ds us
  | [], [], _, _ => .nil
  | [], _ :: _, h, _ => by simp at h
  | _ :: _, [], h, _ => by simp at h
  | d :: ds, u :: us, h, hq => .cons (by simpa using hq 0 d rfl) (Rel2.of (by simpa using h) fun j x hj => by simpa using hq (j + 1) x (by simpa using hj))
theorem Rel2.at_ {Q : D → Value → Prop} {ds : List D} {us : List Value} (h : Rel2 Q ds us) : ∀ (j : Nat) d, ds[j]? = some d → ∃ u, us[j]? = some u ∧ Q d u := by
  induction h with
  | nil => intro j d hj; simp at hj
  | cons h hs ih =>
    intro j d hj
    cases j with
    | zero => simp only [List.getElem?_cons_zero, Option.some.injEq] at hj; subst hj; exact ⟨_, rfl, h⟩
    | succ j => simp only [List.getElem?_cons_succ] at hj ⊢; exact ih j d hj
theorem Rel2.append {Q : D → Value → Prop} {ds ds' : List D} {us us' : List Value} (h : Rel2 Q ds us) (h' : Rel2 Q ds' us') : Rel2 Q (ds ++ ds') (us ++ us') := by
  induction h with
  | nil => exact h'
  | cons h hs ih => exact .cons h ih
theorem Rel2.take {Q : D → Value → Prop} {ds : List D} {us : List Value} (h : Rel2 Q ds us) : ∀ n : Nat, Rel2 Q (ds.take n) (us.take n) := by
  induction h with
  | nil => intro n; simp; exact .nil
  | cons h hs ih =>
    intro n
    cases n with
    | zero => exact .nil
    | succ n => exact .cons h (ih n)
theorem Rel2.drop {Q : D → Value → Prop} {ds : List D} {us : List Value} (h : Rel2 Q ds us) : ∀ n : Nat, Rel2 Q (ds.drop n) (us.drop n) := by
  induction h with
  | nil => intro n; simp; exact .nil
  | cons h hs ih =>
    intro n
    cases n with
    | zero => exact .cons h hs
    | succ n => exact ih n
theorem Rel2.mono {Q Q' : D → Value → Prop} {ds : List D} {us : List Value} (h : Rel2 Q ds us) (hq : ∀ d u, Q d u → Q' d u) : Rel2 Q' ds us := by
  induction h with
  | nil => exact .nil
  | cons h hs ih => exact .cons (hq _ _ h) ih

/-- An own slice that begins its row: where it is, and its cells. -/
theorem Inv.slIn (hI : Inv N M L w0 blk V t h a w) {x v s n : Nat} {r : Row} {u : Value} (hl : live h x v = some r) (hr : RT w (Own M h blk) h blk V (.buf x v s 0 n) u) :
    ∃ cs, SlIn w r.ty s (blk x) u n cs ∧ Rel2 (fun d u => plainC d = true ∧ RP w (Own M h blk) d u) r.cells cs := by
  obtain ⟨hx, hv⟩ := live_some hl
  rcases hr.2 r hx hv with ⟨g, o', c, N', ty, k0, rfl, k2, k3, k4, k5⟩ | ⟨k0, rfl, A, rfl⟩
  · obtain ⟨arr, h1, h2, h3⟩ := hI.lies hx k0 (live_mp hl)
    obtain ⟨k6, k7⟩ := k2 (.inr rfl)
    have hN : N' = arr.size := by
      simp only [World.shape?, h1, Option.some.injEq, Prod.mk.injEq] at k5
      exact k5.2.symm
    rw [Nat.add_zero] at k6
    subst k6
    refine ⟨(List.range r.cells.length).map fun j => arr.getD (g.2 + j) undef, .inl ⟨g, c, arr, k0, rfl, h1, by omega, k3, k4, fun j y hj => ?_⟩, Rel2.of (by simp) fun j d hj => ?_⟩
    · rw [List.getElem?_map, Option.map_eq_some_iff] at hj
      obtain ⟨i, hi, rfl⟩ := hj
      have hlt := (List.getElem?_eq_some_iff.1 hi).1
      rw [List.getElem?_range (by simpa using hlt)] at hi
      cases hi
      simp only [List.length_range] at hlt
      rw [Array.getD_eq_getD_getElem?, Array.getElem?_eq_getElem (show g.2 + j < arr.size by omega)]
      rfl
    · have hlt := (List.getElem?_eq_some_iff.1 hj).1
      have := h3 j d hj
      simpa [List.getD, hlt] using this
  · have := (hI.rows x r hx).2
    rw [k0] at this
    have hc : r.cells = [] := this
    exact ⟨[], .inr ⟨k0, rfl, rfl, A, rfl⟩, by rw [hc]; exact .nil⟩

theorem callI_ok {g : Nat} {p : Nat × Nat × Nat} (hins : InsC P g p) (hI : Inv N M L w0 blk V t h a w) {dst : Option Nat} {E : Eff} {ds : List D} {vs : Array Value} (hE : callI h e dst p ds = some E) (hV : ∀ d, dst = some d → ¬ V d e) (hsz : vs.size = ds.length)
    (hr : ∀ (j : Nat) d, ds[j]? = some d → RT w (Own M h blk) h blk V d (vs.getD j undef)) : Callable P g ∧ Calls P g vs w fun e' w' => ∃ v, e' = .returned v ∧ After N M L w0 V t h a e dst E v w' := by
  refine ⟨hins.callable, ?_⟩
  unfold callI at hE
  split at hE <;> try (cases hE; done)
  rename_i x v s o n i y v' s' o' m
  split at hE <;> try (cases hE; done)
  rename_i r r' d hl hl'
  split at hE <;> try (cases hE; done)
  rename_i hc
  obtain ⟨hz, hz', hlst, hlst', hxy, rfl, rfl, hty, hty', rfl, rfl, hlen, hlen', hi0, hi1, hm0, hmax⟩ := hc
  simp only [Option.some.injEq] at hE
  subst hE
  obtain ⟨hx, hv⟩ := live_some hl
  obtain ⟨hy, hv'⟩ := live_some hl'
  have hvs : vs = #[vs.getD 0 undef, vs.getD 1 undef, vs.getD 2 undef] := by
    simp only [List.length_cons, List.length_nil] at hsz
    apply Array.ext
    · simp [hsz]
    · intro j h1 h2
      have : j = 0 ∨ j = 1 ∨ j = 2 := by omega
      rcases this with rfl | rfl | rfl <;> simp [Array.getElem?_eq_getElem h1]
  have h0 := hr 0 _ rfl
  have h1 := RT_int (hr 1 _ rfl)
  have h2 := hr 2 _ rfl
  obtain ⟨cs, a1, a2⟩ := hI.slIn hl h0
  obtain ⟨cs', b1, b2⟩ := hI.slIn hl' h2
  rw [hty] at a1
  rw [hty'] at b1
  have hone : ∀ {ds : List D} {us : List Value}, Rel2 (fun d u => plainC d = true ∧ RP w (Own M h blk) d u) ds us → ∀ u ∈ us, u.oneCell' = true := by
    intro ds us hR
    induction hR with
    | nil => intro u hu; simp at hu
    | cons h hs ih =>
      intro u hu
      rcases List.mem_cons.1 hu with rfl | hu
      · exact h.2.oneCell h.1
      · exact ih u hu
  rw [hvs, h1, show i = ((i.toNat : Nat) : Int) by omega]
  refine (hins.calls w (blk x) (blk y) _ _ i.toNat n m cs cs' a1 b1 (fun g g' hg hg' he => hxy (hI.inj x y r r' g g' hx hy hg hg' he)) (by rw [a2.length, hlen]) (by rw [b2.length, hlen']) (hone a2) (hone b2) (by omega) hm0 hmax).mono fun e' w' hg => ?_
  obtain ⟨u, he, hb, g, c, arr, rfl, g1, g2, g3, g4, g5, g6⟩ := hg
  refine ⟨_, he, ?_⟩
  have hId := hI.drop y
  have hxd : upd h y none x = some r := by rw [upd_ne _ _ hxy]; exact hx
  have hRel : Rel2 (fun d u => plainC d = true ∧ RP w (Own M h blk) d u) (r.cells.take (i.toNat * p.2.1) ++ (r'.cells ++ r.cells.drop (i.toNat * p.2.1))) (cs.take (i.toNat * p.2.1) ++ (cs' ++ cs.drop (i.toNat * p.2.1))) := (a2.take _).append (b2.append (a2.drop _))
  have hown : ∀ b, Own M (forget (upd h y none) (some x)) blk b → Own M h blk b := by
    intro b hb
    rcases own_forget hb with hb | ⟨z, q, g0, hz1, hz2, hz3, hz4⟩
    · exact .inl hb
    · by_cases hzy : z = y
      · subst hzy; simp [upd] at hz1
      · rw [upd_ne _ _ hzy] at hz1
        exact .inr ⟨z, q, g0, hz1, hz2, hz3, hz4⟩
  have hin : ∀ b, In0 (blk x) b → Own M h blk b := fun b ⟨g0, hg0, hb0⟩ => .inr ⟨x, r, g0, hx, hz, hg0, hb0.symm⟩
  have hfin := hId.fresh (e := e) (ty := p.1) (s := p.2.1) (cells := r.cells.take (i.toNat * p.2.1) ++ (r'.cells ++ r.cells.drop (i.toNat * p.2.1))) (n := n + m) (v := .slice (some ⟨g.1, g.2, none⟩) (n + m) c) (old := some x) (dst := some d) rfl (hV d rfl) (w' := w')
    ⟨hb.os, hb.tape, hb.output, hb.size, fun k hk hn => hb.block k hk (fun ⟨g0, hg0, he⟩ => hn ⟨x, g0, rfl, hg0, he⟩)⟩ (fun z hz1 => by cases hz1; exact ⟨r, hxd, hz⟩)
    (.inl ⟨g, c, arr, rfl, g1.imp id (fun ⟨g0, hg0, he⟩ => ⟨x, g0, rfl, hg0, he⟩), g2, g3, g4, g5, ?_, fun j d' hj => ?_⟩)
  · unfold After
    exact hfin
  · have hpos := hins.pos
    have e1 : (cs.take (i.toNat * p.2.1) ++ (cs' ++ cs.drop (i.toNat * p.2.1))).length = (r.cells.take (i.toNat * p.2.1) ++ (r'.cells ++ r.cells.drop (i.toNat * p.2.1))).length := hRel.length
    have e2 : (r.cells.take (i.toNat * p.2.1) ++ (r'.cells ++ r.cells.drop (i.toNat * p.2.1))).length = (n + m) * p.2.1 := by
      have := Nat.mul_le_mul_right p.2.1 (show i.toNat ≤ n by omega)
      rw [List.length_append, List.length_append, List.length_take, List.length_drop, hlen, hlen', Nat.min_eq_left this, Nat.add_mul]
      omega
    rw [e2]
    have := Nat.mul_le_mul_right p.2.1 g3
    omega
  · obtain ⟨u, hu, hq1, hq2⟩ := hRel.at_ j d' hj
    have hau := g6 j u hu
    refine ⟨hq1, ?_⟩
    rw [Array.getD_eq_getD_getElem?, hau]
    refine hq2.keep fun b q1 q2 => ⟨Nat.lt_of_lt_of_le q1 hb.size, ?_, hb.block b q1 (fun hn => q2 (hin b hn))⟩
    rintro (hn | rfl)
    · exact q2 (hown b hn)
    · rcases g1 with g1 | g1
      · omega
      · exact q2 (hin _ g1)

theorem does_call (hΓ : GOk P Γ) (hI : Inv N M L w0 blk V t h a w) {c : Call} {f : Operand} {E : Eff} (ho : o.op = .call c) (hc : c.callee = .value f) (hV : ∀ d, o.dst = some d → ¬ V d e) (hE : effCall Γ h e o.dst (ev t f) (c.args.toList.map (ev t)) = some E) : Does P o a w (After N M L w0 V t h a e o.dst E) := by
  have hf := hI.ev f
  have hargs : ∀ (j : Nat) d, (c.args.toList.map (ev t))[j]? = some d → RT w (Own M h blk) h blk V d ((c.args.map a.eval).getD j undef) := by
    intro j d hj
    rw [List.getElem?_map] at hj
    cases hx : c.args.toList[j]? with
    | none => simp [hx] at hj
    | some x =>
      simp only [hx, Option.map_some, Option.some.injEq] at hj
      subst hj
      have : (c.args.map a.eval).getD j undef = a.eval x := by
        have hx' : c.args[j]? = some x := by simpa using hx
        simp [hx']
      rw [this]
      exact hI.ev x
  have hsz : (c.args.map a.eval).size = (c.args.toList.map (ev t)).length := by simp
  have hrun : ∀ {g : Nat} {fs caps : Array Value}, a.eval f = .func (.func g) fs caps → Callable P g → (execOp a.eval o).run P w = .ok (.enter g (fs ++ c.args.map a.eval ++ caps)) w := by
    intro g fs caps hfv ⟨fn, hfn, hname, hbody⟩
    have hn : ¬ fn.name = "runtime.NumGoroutine" := by simpa using hname
    have hb : ¬ fn.body = none := by
      intro h0
      rw [h0] at hbody
      cases hbody
    simp [execOp, ho, resolve, hc, hfv, Deferred.ofValue, invoke, callFunc, program, Sem.run, hfn, hn, hb]
  generalize c.args.toList.map (ev t) = ds at *
  generalize c.args.map a.eval = vs at *
  generalize ev t f = q at *
  have done : ∀ {g : Nat} {fs caps : Array Value} {args : Array Value}, a.eval f = .func (.func g) fs caps → args = fs ++ vs ++ caps → (Callable P g ∧ Calls P g args w fun e' w' => ∃ v, e' = .returned v ∧ After N M L w0 V t h a e o.dst E v w') → Does P o a w (After N M L w0 V t h a e o.dst E) :=
    fun hfv hargs ⟨h1, h2⟩ => .inr (.inr ⟨_, _, hargs ▸ hrun hfv h1, h2⟩)
  cases q with
  | fn g =>
    have hfv : a.eval f = .func (.func g) #[] #[] := by
      have hf' : RP w (Own M h blk) (.fn g) (a.eval f) := hf
      generalize a.eval f = u at *
      cases hf'
      rfl
    simp only [effCall] at hE
    split at hE
    · rename_i p hp
      exact done hfv (by simp) (callI_ok (hΓ.ins g p hp) hI hE hV hsz hargs)
    split at hE
    · split at hE
      · rename_i x v s c0 n rest
        have hsz' : (vs.extract 1 vs.size).size = rest.length := by simp at hsz ⊢; omega
        have hvs : vs = #[vs.getD 0 undef] ++ vs.extract 1 vs.size := by
          have : 0 < vs.size := by simp at hsz; omega
          apply Array.ext
          · simp; omega
          · intro i h1 h2
            cases i with
            | zero => simp [Array.getElem?_eq_getElem this]
            | succ i => simp [Array.getElem_append]; congr 1; omega
        have h0 := hargs 0 _ rfl
        refine done hfv (by simpa using hvs.symm) (callL_ok hΓ hI hE hV h0.1 (fun r hl => (hI.lentV hl).1 _ _ _ h0) hsz' (fun j d hj => ?_))
        have := hargs (j + 1) d (by simpa using hj)
        have e1 : (vs.extract 1 vs.size).getD j undef = vs.getD (j + 1) undef := by
          simp only [Array.getD_eq_getD_getElem?]
          congr 1
          rw [Array.getElem?_extract]
          split
          · congr 1; omega
          · rename_i hh; rw [Array.getElem?_eq_none (by omega)]
        rw [e1]; exact this
      · rename_i x v c0 rest
        have hsz' : (vs.extract 1 vs.size).size = rest.length := by simp at hsz ⊢; omega
        have hvs : vs = #[vs.getD 0 undef] ++ vs.extract 1 vs.size := by
          have : 0 < vs.size := by simp at hsz; omega
          apply Array.ext
          · simp; omega
          · intro i h1 h2
            cases i with
            | zero => simp [Array.getElem?_eq_getElem this]
            | succ i => simp [Array.getElem_append]; congr 1; omega
        have h0 := hargs 0 _ rfl
        refine done hfv (by simpa using hvs.symm) (callL_ok hΓ hI hE hV h0.1 (fun r hl => (hI.lentV hl).2 _ h0) hsz' (fun j d hj => ?_))
        have := hargs (j + 1) d (by simpa using hj)
        have e1 : (vs.extract 1 vs.size).getD j undef = vs.getD (j + 1) undef := by
          simp only [Array.getD_eq_getD_getElem?]
          congr 1
          rw [Array.getElem?_extract]
          split
          · congr 1; omega
          · rename_i hh; rw [Array.getElem?_eq_none (by omega)]
        rw [e1]; exact this
      · cases hE
    · exact done hfv (by simp) (callC_ok hΓ hI hE hV hsz hargs)
  | clo g kk caps =>
    obtain ⟨us, k1, k2, k3⟩ := hf
    simp only [effCall] at hE
    by_cases hok : caps.all okCap = true
    rotate_left
    · rw [if_neg hok] at hE; cases hE
    rw [if_pos hok] at hE
    have hus : ((us.take kk).toArray ++ vs ++ (us.drop kk).toArray).toList = us.take kk ++ (vs.toList ++ us.drop kk) := by simp
    have hl1 : (us.take kk).length = (caps.take kk).length := by rw [List.length_take, List.length_take, k2]
    have hsz' : vs.toList.length = ds.length := by simpa using hsz
    refine done k1 rfl (callC_ok hΓ hI hE hV (by simp [hsz, k2]) (fun j d hj => ?_))
    have hget : ((us.take kk).toArray ++ vs ++ (us.drop kk).toArray).getD j undef = (us.take kk ++ (vs.toList ++ us.drop kk)).getD j undef := by
      rw [← hus, Array.getD_eq_getD_getElem?, List.getD_eq_getElem?_getD, Array.getElem?_toList]
    rw [hget, List.getD_eq_getElem?_getD]
    rw [List.getElem?_append] at hj ⊢
    rw [hl1]
    split at hj
    · rename_i hlt
      rw [if_pos hlt]
      have hj2 : j < kk := by rw [List.length_take] at hlt; omega
      rw [List.getElem?_take, if_pos hj2] at hj ⊢
      have := RT_of_RC (k3 _ d hj)
      rwa [List.getD_eq_getElem?_getD] at this
    · rename_i hlt
      rw [if_neg hlt]
      rw [List.getElem?_append] at hj ⊢
      rw [hsz']
      split at hj
      · rename_i hlt2
        rw [if_pos hlt2]
        have := hargs _ d hj
        rw [Array.getD_eq_getD_getElem?] at this
        simpa using this
      · rename_i hlt2
        rw [if_neg hlt2]
        rw [List.getElem?_drop] at hj ⊢
        have := RT_of_RC (k3 _ d hj)
        rwa [List.getD_eq_getElem?_getD] at this
  | _ => simp [effCall] at hE

theorem RT.lenV {d : D} {n : Nat} {u : Value} (hI : Inv N M L w0 blk V t h a w) (hl : lenD d = some n) (ha : alive h d = true) (hr : RT w (Own M h blk) h blk V d u) :
    (∀ s, d = .str s → u = .string s ∧ s.size = n) ∧ ((∀ s, d ≠ .str s) → ∃ A c, u = .slice A n c) := by
  cases d with
  | str s =>
    simp only [lenD, Option.some.injEq] at hl
    refine ⟨fun s' hs => ?_, fun hn => absurd rfl (hn s)⟩
    cases hs
    exact ⟨RT_str hr, hl⟩
  | sl nl tight m xs =>
    simp only [lenD, Option.some.injEq] at hl
    subst hl
    refine ⟨fun s' hs => (by cases hs), fun _ => ?_⟩
    have hr' : RP w (Own M h blk) (.sl nl tight m xs) u := hr
    cases hr' with
    | sl A c nl tight n xs us h1 h2 h3 h4 h5 h6 h7 h8 => exact ⟨A, c, rfl⟩
  | buf x v s o m =>
    simp only [lenD, Option.some.injEq] at hl
    subst hl
    refine ⟨fun s' hs => (by cases hs), fun _ => ?_⟩
    simp only [alive, Option.isSome_iff_exists] at ha
    obtain ⟨r, hr'⟩ := ha
    obtain ⟨hx, hv⟩ := live_some hr'
    rcases hr.2 r hx hv with ⟨g, o', c, N', t', _, g1, _⟩ | ⟨_, rfl, A, g1⟩
    · exact ⟨_, c, g1⟩
    · exact ⟨A, 0, g1⟩
  | _ => simp [lenD] at hl

theorem run_maxL (k : IntKind) : ∀ (ds : List D) (us : List Value) (x z : Int), maxL (fun x y => if y > x then y else x) k x ds = some z → us.length = ds.length → (∀ j d, ds[j]? = some d → RT w (Own M h blk) h blk V d (us.getD j undef)) →
    (us.foldlM Builtin.max2 (.int k x)).run P w = .ok (.int k z) w
  | [], us, x, z, hm, hl, _ => by
    have : us = [] := List.eq_nil_of_length_eq_zero hl
    subst this
    simp only [maxL, Option.some.injEq] at hm
    subst hm
    rfl
  | d :: ds, us, x, z, hm, hl, hr => by
    cases us with
    | nil => simp at hl
    | cons u us =>
      have hu := hr 0 d rfl
      cases d with
      | int k' y =>
        simp only [maxL] at hm
        split at hm
        · have hu' := RT_int hu
          simp only [List.getD_cons_zero] at hu'
          subst hu'
          have ih := run_maxL k ds us _ z hm (by simpa using hl) (fun j d hj => by simpa using hr (j + 1) d (by simpa using hj))
          simp only [List.foldlM_cons, Sem.run_bind, Builtin.max2, Sem.run_pure, Result.andThen_ok]
          exact ih
        · cases hm
      | _ => simp [maxL] at hm

theorem run_minL (k : IntKind) : ∀ (ds : List D) (us : List Value) (x z : Int), maxL (fun x y => if y < x then y else x) k x ds = some z → us.length = ds.length → (∀ j d, ds[j]? = some d → RT w (Own M h blk) h blk V d (us.getD j undef)) →
    (us.foldlM Builtin.min2 (.int k x)).run P w = .ok (.int k z) w
  | [], us, x, z, hm, hl, _ => by
    have : us = [] := List.eq_nil_of_length_eq_zero hl
    subst this
    simp only [maxL, Option.some.injEq] at hm
    subst hm
    rfl
  | d :: ds, us, x, z, hm, hl, hr => by
    cases us with
    | nil => simp at hl
    | cons u us =>
      have hu := hr 0 d rfl
      cases d with
      | int k' y =>
        simp only [maxL] at hm
        split at hm
        · have hu' := RT_int hu
          simp only [List.getD_cons_zero] at hu'
          subst hu'
          have ih := run_minL k ds us _ z hm (by simpa using hl) (fun j d hj => by simpa using hr (j + 1) d (by simpa using hj))
          simp only [List.foldlM_cons, Sem.run_bind, Builtin.min2, Sem.run_pure, Result.andThen_ok]
          exact ih
        · cases hm
      | _ => simp [maxL] at hm
end
end Go.Proofs.YtdecgihkgpgejaaDoor.Am
