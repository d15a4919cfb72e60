/- The memory-free machine, part 13: the steps of a region, in whatever order. -/
import Derived.Test.YtdecgihkgpgejaaDoorAy
namespace Go.Proofs.YtdecgihkgpgejaaDoor.Am
open Go.RowKit
set_option linter.unusedSimpArgs false
set_option linter.unusedVariables false

section
variable {T : Nat → Option Ty} {h h' : Nat → Option Row} {e : Nat} {o : Oper} {Γ : Env}

theorem effAppend_names {τ : Ty} {d : Nat} {s x : D} {E : Eff} (hE : effAppend T τ h e d s x = some E) : ∀ p ∈ E.hw, p.1 = d ∨ p.1 ∈ nm s := by
  unfold effAppend at hE
  split at hE
  · split at hE
    · split at hE
      · split at hE
        · split at hE
          · split at hE
            · simp only [Option.some.injEq] at hE; subst hE; intro p hp; simp at hp
            · simp only [Option.some.injEq] at hE; subst hE; intro p hp; simp at hp; exact .inl (by rw [hp])
          · cases hE
        · split at hE
          · split at hE
            · simp only [Option.some.injEq] at hE; subst hE
              intro p hp
              simp only [List.mem_cons, List.not_mem_nil, or_false] at hp
              rcases hp with rfl | rfl
              · exact .inr (by simp [nm, nm1])
              · exact .inl rfl
            · cases hE
          · cases hE
        · cases hE
      · cases hE
    · cases hE
  · cases hE

theorem callC_names {dst : Option Nat} {g : Nat} {args : List D} {E : Eff} (hE : callC Γ h e dst g args = some E) : ∀ p ∈ E.hw, dst = some p.1 ∨ ∃ d ∈ args, p.1 ∈ nm d := by
  unfold callC at hE
  split at hE
  · rename_i hca
    split at hE
    · simp only [Option.some.injEq] at hE
      subst hE
      intro p hp
      simp only at hp
      split at hp
      · simp at hp
      · exact .inr (cleanArgs_nm hca _ (frz_names hp))
    · split at hE
      · split at hE
        · simp only [Option.some.injEq] at hE
          subst hE
          intro p hp
          simp only [List.mem_append, List.mem_singleton] at hp
          rcases hp with hp | rfl
          · split at hp
            · simp at hp
            · exact .inr (cleanArgs_nm hca _ (frz_names hp))
          · exact .inl rfl
        · cases hE
      · cases hE
    · cases hE
  · cases hE

theorem callI_names {dst : Option Nat} {p : Nat × Nat × Nat} {args : List D} {E : Eff} (hE : callI h e dst p args = some E) : ∀ q ∈ E.hw, dst = some q.1 ∨ ∃ d ∈ args, q.1 ∈ nm d := by
  unfold callI at hE
  split at hE <;> try (cases hE; done)
  split at hE <;> try (cases hE; done)
  split at hE <;> try (cases hE; done)
  simp only [Option.some.injEq] at hE
  subst hE
  intro q hq
  simp only [List.mem_cons, List.not_mem_nil, or_false] at hq
  rcases hq with rfl | rfl | rfl
  · exact .inr ⟨_, List.mem_cons_of_mem _ (List.mem_cons_of_mem _ List.mem_cons_self), by simp [nm, nm1]⟩
  · exact .inr ⟨_, List.mem_cons_self, by simp [nm, nm1]⟩
  · exact .inl rfl

theorem callL_names {dst : Option Nat} {g x v : Nat} {d0 : D} {args : List D} {E : Eff} (hE : callL Γ h e dst g x v d0 args = some E) : ∀ p ∈ E.hw, dst = some p.1 ∨ p.1 = x ∨ ∃ d ∈ args, p.1 ∈ nm d := by
  unfold callL at hE
  split at hE <;> try (cases hE; done)
  split at hE <;> try (cases hE; done)
  split at hE <;> try (cases hE; done)
  rename_i hca
  split at hE <;> try (cases hE; done)
  split at hE <;> try (cases hE; done)
  · simp only [Option.some.injEq] at hE
    subst hE
    intro p hp
    simp only [List.mem_append, List.mem_singleton] at hp
    rcases hp with hp | rfl
    · exact .inr (.inr (cleanArgs_nm hca _ (frz_names hp)))
    · exact .inr (.inl rfl)
  · simp only [Option.some.injEq] at hE
    subst hE
    intro p hp
    simp only [List.mem_append, List.mem_singleton] at hp
    rcases hp with hp | rfl
    · exact .inr (.inr (cleanArgs_nm hca _ (frz_names hp)))
    · exact .inr (.inl rfl)
  · split at hE <;> try (cases hE; done)
    split at hE <;> try (cases hE; done)
    simp only [Option.some.injEq] at hE
    subst hE
    intro p hp
    simp only [List.mem_append, List.mem_cons, List.not_mem_nil, or_false] at hp
    rcases hp with hp | rfl | rfl
    · exact .inr (.inr (cleanArgs_nm hca _ (frz_names hp)))
    · exact .inr (.inl rfl)
    · exact .inl rfl

/-- What an operation writes it looks at. -/
theorem effLoad_hw {τ : Ty} {d : D} {E : Eff} (hE : effLoad τ h d = some E) : E.hw = [] := by
  cases d <;> simp only [effLoad] at hE <;> try (cases hE; done)
  all_goals (repeat' split at hE) <;> first | (cases hE; done) | (simp only [Option.some.injEq] at hE; subst hE; rfl)
theorem effLd_hw {τ : Ty} {d : D} {E : Eff} (hE : effLd τ h d = some E) : E.hw = [] := by
  have hl : effLoad τ h d = some E → E.hw = [] := effLoad_hw
  cases d with
  | ptr x v o =>
    simp only [effLd] at hE
    cases hl : live h x v with
    | none => rw [hl] at hE; cases hE
    | some r =>
      rw [hl] at hE
      simp only [effLdR] at hE
      split at hE
      · split at hE
        · split at hE
          · simp only [Option.some.injEq] at hE; subst hE; rfl
          · exact effLoad_hw hE
        · cases hE
      · exact effLoad_hw hE
  | pm x v y =>
    simp only [effLd] at hE
    split at hE
    · split at hE
      · split at hE
        · simp only [Option.some.injEq] at hE; subst hE; rfl
        · cases hE
      · cases hE
    · cases hE
  | _ => exact hl hE
theorem effStore_names {τ : Ty} {q d : D} {E : Eff} (hE : effStore τ h q d = some E) : ∀ p ∈ E.hw, p.1 ∈ nm d ∨ p.1 ∈ nm q := by
  cases q <;> simp only [effStore] at hE <;> try (cases hE; done)
  split at hE
  · split at hE
    · rename_i hc
      split at hE
      · simp only [Option.some.injEq] at hE
        subst hE
        intro p hp
        rcases List.mem_append.1 hp with hp | hp
        · exact .inl (cellsV_nm hc _ (frz_names hp))
        · simp only [List.mem_singleton] at hp
          subst hp
          exact .inr (by simp [nm, nm1])
      · cases hE
    · cases hE
  · cases hE
theorem effSto_names {τ : Ty} {q d : D} {E : Eff} (hE : effSto τ h q d = some E) : ∀ p ∈ E.hw, p.1 ∈ nm d ∨ p.1 ∈ nm q := by
  have hl : effStore τ h q d = some E → ∀ p ∈ E.hw, p.1 ∈ nm d ∨ p.1 ∈ nm q := effStore_names
  cases d with
  | box1 y vy s oy n =>
    cases q with
    | ptr x v o =>
      simp only [effSto] at hE
      split at hE
      · split at hE
        · simp only [Option.some.injEq] at hE
          subst hE
          intro p hp
          simp only [List.mem_singleton] at hp
          subst hp
          exact .inr (by simp [nm, nm1])
        · cases hE
      · cases hE
    | _ => simp [effSto] at hE
  | mp y' v' =>
    cases q with
    | pm x v y =>
      simp only [effSto] at hE
      split at hE
      · split at hE
        · simp only [Option.some.injEq] at hE
          subst hE
          intro p hp
          simp only [List.mem_singleton] at hp
          subst hp
          exact .inr (by simp [nm, nm1])
        · cases hE
      · cases hE
    | _ => simp [effSto] at hE
  | _ => exact hl hE
theorem effLookup_hw {τ : Ty} {m i : D} {ok : Bool} {E : Eff} (hE : effLookup T τ h m i ok = some E) : E.hw = [] := by
  unfold effLookup at hE
  split at hE
  · split at hE
    · split at hE
      · simp only [Option.some.injEq] at hE; subst hE; rfl
      · cases hE
    · cases hE
  · cases hE
theorem effMapUpdate_names {τ : Ty} {m i d : D} {E : Eff} (hE : effMapUpdate T τ h m i d = some E) : ∀ p ∈ E.hw, p.1 ∈ nm d ∨ p.1 ∈ nm m := by
  unfold effMapUpdate at hE
  split at hE
  · rename_i hv
    split at hE
    · split at hE
      · split at hE
        · simp only [Option.some.injEq] at hE
          subst hE
          intro p hp
          rcases List.mem_append.1 hp with hp | hp
          · exact .inl (valM_nm hv _ (frz_names hp))
          · simp only [List.mem_singleton] at hp
            subst hp
            exact .inr (by simp [nm, nm1])
        · cases hE
      · cases hE
    · cases hE
  · cases hE
theorem effBuild_names {τ : Ty} {parts : List (Nat × D)} {E : Eff} (hE : effBuild T τ h parts = some E) : ∀ p ∈ E.hw, ∃ q ∈ parts, p.1 ∈ nm q.2 := by
  unfold effBuild at hE
  split at hE
  · split at hE
    · split at hE
      · rename_i hf
        simp only [Option.some.injEq] at hE
        subst hE
        intro p hp
        exact fillD_nm hf _ (frz_names hp)
      · cases hE
    · cases hE
  · cases hE
theorem effBld_names {q : Nat → Bool} {τ : Ty} {dst : Option Nat} {parts : List (Nat × D)} {E : Eff} (hE : effBld q T τ h dst parts = some E) : ∀ p ∈ E.hw, ∃ q ∈ parts, p.1 ∈ nm q.2 := by
  unfold effBld at hE
  split at hE
  · split at hE
    · exact effBuild_names hE
    · split at hE
      · split at hE
        · simp only [Option.some.injEq] at hE
          subst hE
          intro p hp
          simp at hp
        · cases hE
      · unfold cE at hE
        split at hE
        · rename_i hb
          simp only [Option.some.injEq] at hE
          subst hE
          have hh := effBuild_names hb
          exact hh
        · cases hE
  · exact effBuild_names hE
theorem eff_names {vs : Operand → D} {E : Eff} (hE : eff T Γ e o vs h = some E) : ∀ p ∈ E.hw, p.1 ∈ touch o vs := by
  have key : ∀ y, y ∈ o.op.operands.toList → (∀ a b c, o.op ≠ .pick a b c) → (∀ a, o.op ≠ .move a) → (∀ a b c, o.op ≠ .makeFunc a b c) → ∀ x ∈ nm (vs y), x ∈ touch o vs := by
    intro y hy h1 h2 h3 x hxm
    unfold touch
    split
    · rename_i ho; exact absurd ho (h2 _)
    · rename_i ho; exact absurd ho (h1 _ _ _)
    · rename_i ho; exact absurd ho (h3 _ _ _)
    · exact List.mem_append_left _ (List.mem_flatMap.2 ⟨y, hy, hxm⟩)
  have keyd : ∀ d, o.dst = some d → (∀ a b c, o.op ≠ .pick a b c) → (∀ a, o.op ≠ .move a) → (∀ a b c, o.op ≠ .makeFunc a b c) → d ∈ touch o vs := by
    intro d hd h1 h2 h3
    unfold touch
    split
    · rename_i ho; exact absurd ho (h2 _)
    · rename_i ho; exact absurd ho (h1 _ _ _)
    · rename_i ho; exact absurd ho (h3 _ _ _)
    · exact List.mem_append_right _ (by rw [hd]; simp)
  have none_ : ∀ (d : D), (some ⟨d, []⟩ : Option Eff) = some E → ∀ p ∈ E.hw, p.1 ∈ touch o vs := by
    intro d he p hp
    simp only [Option.some.injEq] at he
    subst he
    simp at hp
  unfold eff at hE
  cases ho : o.op <;> rw [ho] at hE key keyd <;> simp only at hE <;> try (cases hE; done)
  case move x => exact none_ _ hE
  case assign x =>
    have hold : effAssign T o.type e o.dst h (vs x) = some E → ∀ p ∈ E.hw, p.1 ∈ touch o vs := by
      intro hE
      unfold effAssign at hE
      split at hE
      · rename_i y v s c n hx
        split at hE
        · rename_i hd _
          split at hE
          · exact none_ _ hE
          · simp only [Option.some.injEq] at hE
            subst hE
            intro p hp
            simp only [List.mem_cons, List.not_mem_nil, or_false] at hp
            rcases hp with rfl | rfl
            · exact key x (by simp [Op.operands]) (by simp) (by simp) (by simp) _ (by rw [hx]; simp [nm, nm1])
            · exact keyd _ hd (by simp) (by simp) (by simp)
        · exact none_ _ hE
      · split at hE
        · rename_i hd _
          split at hE
          · split at hE
            · simp only [Option.some.injEq] at hE
              subst hE
              intro p hp
              simp only [List.mem_singleton] at hp
              subst hp
              exact keyd _ hd (by simp) (by simp) (by simp)
            · cases hE
          · cases hE
        · cases hE
      · exact none_ _ hE
    unfold effAsg at hE
    split at hE
    · rename_i d hd
      split at hE
      · rw [← hd] at hE; exact hold hE
      · unfold effClean at hE
        split at hE
        · rename_i d' fr hc
          simp only [Option.some.injEq] at hE
          subst hE
          intro p hp
          exact key x (by simp [Op.operands]) (by simp) (by simp) (by simp) _ (clean2_nm hc _ (frz_names hp))
        · cases hE
    · rename_i hd; rw [← hd] at hE; exact hold hE
  case pick a b c =>
    split at hE
    · exact none_ _ hE
    · exact none_ _ hE
    · cases hE
  case alloc ty =>
    split at hE
    · rename_i hd
      split at hE
      · simp only [Option.some.injEq] at hE
        subst hE
        intro p hp
        simp only [List.mem_singleton] at hp
        subst hp
        exact keyd _ hd (by simp) (by simp) (by simp)
      · cases hE
    · cases hE
  case box ty x =>
    split at hE
    · rename_i hd hc
      split at hE
      · simp only [Option.some.injEq] at hE
        subst hE
        intro p hp
        rcases List.mem_append.1 hp with hp | hp
        · exact key x (by simp [Op.operands]) (by simp) (by simp) (by simp) _ (cellsV_nm hc _ (frz_names hp))
        · simp only [List.mem_singleton] at hp
          subst hp
          exact keyd _ hd (by simp) (by simp) (by simp)
      · cases hE
    · cases hE
  case load ty x =>
    split at hE
    · intro p hp
      rw [effLd_hw hE] at hp
      simp at hp
    · cases hE
  case store ty x y =>
    split at hE
    · intro p hp
      rcases effSto_names hE p hp with hh | hh
      · exact key y (by simp [Op.operands]) (by simp) (by simp) (by simp) _ hh
      · exact key x (by simp [Op.operands]) (by simp) (by simp) (by simp) _ hh
    · cases hE
  case makeMap ty res =>
    cases res with
    | some _ => cases hE
    | none =>
      simp only at hE
      split at hE
      · rename_i hd
        unfold effMakeMap at hE
        split at hE
        · simp only [Option.some.injEq] at hE
          subst hE
          intro p hp
          simp only [List.mem_singleton] at hp
          subst hp
          exact keyd _ hd (by simp) (by simp) (by simp)
        · cases hE
      · cases hE
  case lookup ty m i ok =>
    split at hE
    · intro p hp
      rw [effLookup_hw hE] at hp
      simp at hp
    · cases hE
  case mapUpdate ty m i x =>
    split at hE
    · intro p hp
      rcases effMapUpdate_names hE p hp with hh | hh
      · exact key x (by simp [Op.operands]) (by simp) (by simp) (by simp) _ hh
      · exact key m (by simp [Op.operands]) (by simp) (by simp) (by simp) _ hh
    · cases hE
  case insert ty m i x =>
    split at hE
    · intro p hp
      rcases effMapUpdate_names hE p hp with hh | hh
      · exact key x (by simp [Op.operands]) (by simp) (by simp) (by simp) _ hh
      · exact key m (by simp [Op.operands]) (by simp) (by simp) (by simp) _ hh
    · cases hE
  case nilCheck x =>
    cases hx : vs x <;> rw [hx] at hE <;> simp only [effNil] at hE <;> try (cases hE; done)
    · split at hE
      · exact none_ _ hE
      · cases hE
    · exact none_ _ hE
  case fieldAddr ty x i =>
    split at hE
    · cases hx : vs x <;> rw [hx] at hE <;> simp only [effField] at hE <;> try (cases hE; done)
      · split at hE
        · split at hE
          · split at hE
            · split at hE
              · cases hE
              · exact none_ _ hE
            · cases hE
          · cases hE
        · cases hE
      · split at hE
        · split at hE
          · split at hE
            · split at hE
              · cases hE
              · exact none_ _ hE
            · cases hE
          · cases hE
        · cases hE
    · cases hE
  case field ty x i =>
    split at hE
    · cases hx : vs x <;> rw [hx] at hE <;> simp only [effPart] at hE <;> try (cases hE; done)
      split at hE
      · split at hE
        · split at hE
          · split at hE
            · exact none_ _ hE
            · cases hE
          · cases hE
        · cases hE
      · cases hE
    · cases hE
  case indexAddr ty x i =>
    split at hE
    · cases hx : vs x <;> cases hi : vs i <;> rw [hx, hi] at hE <;> simp only [effIndexAddr] at hE <;> try (cases hE; done)
      all_goals
        split at hE
        · split at hE
          · split at hE
            · exact none_ _ hE
            · cases hE
          · cases hE
        · cases hE
    · cases hE
  case index ty x i =>
    split at hE
    · cases hx : vs x <;> cases hi : vs i <;> rw [hx, hi] at hE <;> simp only [effIndex] at hE <;> try (cases hE; done)
      · split at hE
        · split at hE
          · split at hE
            · exact none_ _ hE
            · cases hE
          · cases hE
        · cases hE
      · split at hE
        · split at hE
          · split at hE
            · split at hE
              · exact none_ _ hE
              · cases hE
            · cases hE
          · cases hE
        · cases hE
    · cases hE
  case slice ty x lo hi mx =>
    split at hE
    · unfold effSlice at hE
      split at hE
      · split at hE
        · exact none_ _ hE
        · cases hE
      · split at hE
        · split at hE
          · split at hE
            · exact none_ _ hE
            · split at hE
              · split at hE
                · exact none_ _ hE
                · cases hE
              · cases hE
          · cases hE
        · cases hE
      · split at hE
        · split at hE
          · split at hE
            · exact none_ _ hE
            · cases hE
          · cases hE
        · cases hE
      · cases hE
    · cases hE
  case build ty parts =>
    split at hE
    · intro p hp
      obtain ⟨q, hq, hx⟩ := effBld_names hE p hp
      obtain ⟨y, hy, rfl⟩ := List.mem_map.1 hq
      exact key y.2 (by simp only [Op.operands, List.toList_toArray]; exact List.mem_map.2 ⟨y, hy, rfl⟩) (by simp) (by simp) (by simp) _ hx
    · cases hE
  case buildSlice ty len parts =>
    split at hE
    · rename_i hd
      unfold effBuildSlice at hE
      split at hE
      · split at hE
        · split at hE
          · split at hE
            · rename_i hf
              split at hE
              · simp only [Option.some.injEq] at hE
                subst hE
                intro p hp
                rcases List.mem_append.1 hp with hp | hp
                · obtain ⟨q, hq, hx⟩ := fillD_nm hf _ (frz_names hp)
                  obtain ⟨y, hy, rfl⟩ := List.mem_map.1 hq
                  exact key y.2 (by simp only [Op.operands, List.toList_toArray]; exact List.mem_map.2 ⟨y, hy, rfl⟩) (by simp) (by simp) (by simp) _ hx
                · simp only [List.mem_singleton] at hp
                  subst hp
                  exact keyd _ hd (by simp) (by simp) (by simp)
              · cases hE
            · cases hE
          · cases hE
        · cases hE
      · cases hE
    · cases hE
  case makeSlice ty l c =>
    split at hE
    · rename_i hd
      unfold effMake at hE
      split at hE
      · split at hE
        · split at hE
          · simp only [Option.some.injEq] at hE
            subst hE
            intro p hp
            simp only [List.mem_singleton] at hp
            subst hp
            exact keyd _ hd (by simp) (by simp) (by simp)
          · cases hE
        · cases hE
      · cases hE
    · cases hE
  case binOp op ty x y ty' =>
    split at hE
    · exact none_ _ hE
    · cases hE
  case unOp op ty x =>
    split at hE
    · exact none_ _ hE
    · cases hE
  case makeFunc fn first caps =>
    split at hE
    · split at hE
      · exact none_ _ hE
      · cases hE
    · cases hE
  case convert s d x =>
    split at hE
    · split at hE
      · exact none_ _ hE
      · cases hE
    · cases hE
  case extract x i =>
    split at hE
    · split at hE
      · exact none_ _ hE
      · cases hE
    · cases hE
  case call c =>
    cases hc : c.callee with
    | invoke _ _ => rw [hc] at hE; cases hE
    | value f =>
      rw [hc] at hE
      simp only at hE
      have karg : ∀ d ∈ c.args.toList.map vs, ∀ x ∈ nm d, x ∈ touch o vs := by
        intro d hd x hx
        obtain ⟨y, hy, rfl⟩ := List.mem_map.1 hd
        exact key y (by simp only [Op.operands, Call.operands, Array.toList_append]; exact List.mem_append_right _ hy) (by simp) (by simp) (by simp) _ hx
      have kdst : ∀ d, o.dst = some d → d ∈ touch o vs := fun d hd => keyd d hd (by simp) (by simp) (by simp)
      have kfn : ∀ x ∈ nm (vs f), x ∈ touch o vs := key f (by simp [Op.operands, Call.operands, hc]) (by simp) (by simp) (by simp)
      generalize c.args.toList.map vs = ds at *
      unfold effCall at hE
      split at hE
      · split at hE
        · intro p hp
          rcases callI_names hE p hp with hh | ⟨d, hd, hx⟩
          · exact kdst _ hh
          · exact karg d hd _ hx
        split at hE
        · split at hE
          · intro p hp
            rcases callL_names hE p hp with hh | hh | ⟨d, hd, hx⟩
            · exact kdst _ hh
            · exact karg _ List.mem_cons_self _ (by rw [hh]; simp [nm, nm1])
            · exact karg d (List.mem_cons_of_mem _ hd) _ hx
          · intro p hp
            rcases callL_names hE p hp with hh | hh | ⟨d, hd, hx⟩
            · exact kdst _ hh
            · exact karg _ List.mem_cons_self _ (by rw [hh]; simp [nm, nm1])
            · exact karg d (List.mem_cons_of_mem _ hd) _ hx
          · cases hE
        · intro p hp
          rcases callC_names hE p hp with hh | ⟨d, hd, hx⟩
          · exact kdst _ hh
          · exact karg d hd _ hx
      · rename_i g kk caps hfv
        split at hE
        · rename_i hok
          rw [List.all_eq_true] at hok
          have kcap : ∀ d ∈ caps, ∀ x ∈ nm d, x ∈ touch o vs := fun d hd x hx => by
            have := hok d hd
            rw [nm_of (fun f kk xs he => by rw [he] at this; cases this)] at hx
            exact kfn _ (by rw [hfv]; exact List.mem_flatMap.2 ⟨d, hd, hx⟩)
          intro p hp
          rcases callC_names hE p hp with hh | ⟨d, hd, hx⟩
          · exact kdst _ hh
          · rcases List.mem_append.1 hd with hd | hd
            · exact kcap d (List.mem_of_mem_take hd) _ hx
            · rcases List.mem_append.1 hd with hd | hd
              · exact karg d hd _ hx
              · exact kcap d (List.mem_of_mem_drop hd) _ hx
        · cases hE
      · cases hE
    | builtin b =>
      rw [hc] at hE
      simp only at hE
      unfold effBuiltin at hE
      split at hE
      · split at hE
        · split at hE
          · split at hE
            · exact none_ _ hE
            · exact none_ _ hE
            · exact none_ _ hE
            · cases hE
          · cases hE
        · cases hE
      · rename_i s x hargs
        obtain ⟨ps, px, hl, rfl, rfl⟩ := map_two hargs
        split at hE
        · split at hE
          · rename_i hd
            intro p hp
            rcases effAppend_names hE p hp with h1 | h1
            · rw [h1]; exact keyd _ hd (by simp) (by simp) (by simp)
            · exact key ps (by simp only [Op.operands, Call.operands, Array.toList_append]; exact List.mem_append_right _ (by rw [hl]; simp)) (by simp) (by simp) (by simp) _ h1
          · cases hE
        · cases hE
      · split at hE
        · exact none_ _ hE
        · cases hE
      · split at hE
        · exact none_ _ hE
        · cases hE
      · cases hE
end
end Go.Proofs.YtdecgihkgpgejaaDoor.Am
