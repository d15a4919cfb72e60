/- The memory-free machine, part 12: an effect hangs on what the operation looks at. -/
import Derived.Test.YtdecgihkgpgejaaDoorAx
namespace Go.Proofs.YtdecgihkgpgejaaDoor.Am
open Go.RowKit
set_option linter.unusedSimpArgs false
set_option linter.unusedVariables false

section
variable {T : Nat → Option Ty} {h h' : Nat → Option Row} {e : Nat} {o : Oper} {Γ : Env}

theorem live_congr {x v : Nat} (hx : h x = h' x) : live h x v = live h' x v := by simp [live, hx]
theorem liveM_congr {x v : Nat} (hx : h x = h' x) : liveM h x v = liveM h' x v := by simp [liveM, hx]
theorem clean1_congr {d : D} (hx : ∀ x ∈ nm d, h x = h' x) : clean1 h d = clean1 h' d := by
  cases d <;> try rfl
  rename_i x v s o n
  simp only [clean1]
  rw [live_congr (hx x (by simp [nm, nm1]))]
theorem content_congr {d : D} (hx : ∀ x ∈ nm d, h x = h' x) : content h d = content h' d := by
  cases d <;> try rfl
  rename_i x v s o n
  simp only [content]
  rw [live_congr (hx x (by simp [nm, nm1]))]
theorem cellsV_congr {d : D} (hx : ∀ x ∈ nm d, h x = h' x) : cellsV h d = cellsV h' d := by
  cases d <;> first | rfl | (simp only [cellsV]; rw [clean1_congr hx])
theorem cleanCap_congr {d : D} (hx : ∀ x ∈ nm1 d, h x = h' x) : cleanCap h d = cleanCap h' d := by
  cases d <;> try rfl
  · simp only [cleanCap]
    rw [live_congr (hx _ (by simp [nm1]))]
  · simp only [cleanCap]
    rw [clean1_congr (d := .buf _ _ _ _ _) hx]
  · simp only [cleanCap]
    rw [clean1_congr (d := .buf _ _ _ _ _) hx]
  · simp only [cleanCap]
    rw [liveM_congr (hx _ (by simp [nm1]))]
  · rename_i x v y
    simp only [cleanCap]
    rw [live_congr (hx x (by simp [nm1]))]
    have hl : ∀ v', liveM h y v' = liveM h' y v' := fun v' => liveM_congr (hx y (by simp [nm1]))
    simp only [hl]
theorem cleanCaps_congr : ∀ {ds : List D}, (∀ d ∈ ds, ∀ x ∈ nm1 d, h x = h' x) → cleanCaps h ds = cleanCaps h' ds
  | [], _ => rfl
  | d :: ds, hx => by
    simp only [cleanCaps]
    rw [cleanCap_congr (hx d (by simp)), cleanCaps_congr (fun d' hd' => hx d' (by simp [hd']))]
theorem cleanArg_of (h : Nat → Option Row) {d : D} (hd : ∀ f kk xs, d ≠ .clo f kk xs) : cleanArg h d = cleanCap h d := by cases d <;> first | rfl | exact absurd rfl (hd _ _ _)
theorem nm_of {d : D} (hd : ∀ f kk xs, d ≠ .clo f kk xs) : nm d = nm1 d := by cases d <;> first | rfl | exact absurd rfl (hd _ _ _)
theorem clo_or (d : D) : (∃ f kk xs, d = .clo f kk xs) ∨ ∀ f kk xs, d ≠ .clo f kk xs := by
  cases d <;> first | exact .inl ⟨_, _, _, rfl⟩ | exact .inr (fun _ _ _ h => by cases h)
theorem cleanArg_congr {d : D} (hx : ∀ x ∈ nm d, h x = h' x) : cleanArg h d = cleanArg h' d := by
  rcases clo_or d with ⟨f, kk, xs, rfl⟩ | hd
  · simp only [cleanArg]
    rw [cleanCaps_congr (fun d hd x hxd => hx x (List.mem_flatMap.2 ⟨d, hd, hxd⟩))]
  · rw [nm_of hd] at hx
    rw [cleanArg_of h hd, cleanArg_of h' hd]
    exact cleanCap_congr hx
theorem cleanArgs_congr : ∀ {ds : List D}, (∀ d ∈ ds, ∀ x ∈ nm d, h x = h' x) → cleanArgs h ds = cleanArgs h' ds
  | [], _ => rfl
  | d :: ds, hx => by
    simp only [cleanArgs]
    rw [cleanArg_congr (hx d (by simp)), cleanArgs_congr (fun d' hd' => hx d' (by simp [hd']))]
theorem frz_congr {fr : List Nat} (hx : ∀ x ∈ fr, h x = h' x) : frz h fr = frz h' fr := by
  unfold frz
  exact List.map_congr_left fun x hxm => by rw [hx x hxm]

theorem clean1_nm {d d' : D} {fr : List Nat} (hc : clean1 h d = some (d', fr)) : ∀ x ∈ fr, x ∈ nm d := by
  cases d <;> simp only [clean1, Option.some.injEq, Prod.mk.injEq] at hc <;> try (cases hc; done)
  · obtain ⟨_, rfl⟩ := hc; simp
  · obtain ⟨_, rfl⟩ := hc; simp
  · obtain ⟨_, rfl⟩ := hc; simp
  · obtain ⟨_, rfl⟩ := hc; simp
  · split at hc
    · split at hc
      · simp only [Option.some.injEq, Prod.mk.injEq] at hc
        obtain ⟨_, rfl⟩ := hc
        simp [nm, nm1]
      · cases hc
    · cases hc
theorem cellsV_nm {d : D} {cs : List D} {fr : List Nat} (hc : cellsV h d = some (cs, fr)) : ∀ x ∈ fr, x ∈ nm d := by
  cases d <;> simp only [cellsV] at hc <;> first
    | (simp only [Option.some.injEq, Prod.mk.injEq] at hc; obtain ⟨_, rfl⟩ := hc; simp; done)
    | (split at hc
       · rename_i h1
         simp only [Option.some.injEq, Prod.mk.injEq] at hc
         obtain ⟨_, rfl⟩ := hc
         exact clean1_nm h1
       · cases hc)
theorem cleanCap_nm {d d' : D} {fr : List Nat} (hc : cleanCap h d = some (d', fr)) : ∀ x ∈ fr, x ∈ nm1 d := by
  have one : ∀ d, (∀ f kk xs, d ≠ .clo f kk xs) → cleanCap h d = (match clean1 h d with | some (d', fr) => some (canon d', fr) | none => none) → cleanCap h d = some (d', fr) → ∀ x ∈ fr, x ∈ nm1 d := by
    intro d hne he hc
    rw [he] at hc
    split at hc
    · rename_i h1
      simp only [Option.some.injEq, Prod.mk.injEq] at hc
      obtain ⟨_, rfl⟩ := hc
      intro x hx
      have := clean1_nm h1 x hx
      cases d <;> first | exact this | exact absurd rfl (hne _ _ _)
    · cases hc
  cases d with
  | ptr x v o =>
    simp only [cleanCap] at hc
    split at hc
    · split at hc
      · simp only [Option.some.injEq, Prod.mk.injEq] at hc
        obtain ⟨_, rfl⟩ := hc
        simp [nm1]
      · cases hc
    · cases hc
  | agg xs => simp only [cleanCap, Option.some.injEq, Prod.mk.injEq] at hc; obtain ⟨_, rfl⟩ := hc; simp
  | ip xs => simp only [cleanCap, Option.some.injEq, Prod.mk.injEq] at hc; obtain ⟨_, rfl⟩ := hc; simp
  | fn f => simp only [cleanCap, Option.some.injEq, Prod.mk.injEq] at hc; obtain ⟨_, rfl⟩ := hc; simp
  | clo f kk xs => simp [cleanCap, clean1] at hc
  | box1 x v s o n =>
    simp only [cleanCap] at hc
    split at hc
    · rename_i h1
      simp only [Option.some.injEq, Prod.mk.injEq] at hc
      obtain ⟨_, rfl⟩ := hc
      exact clean1_nm h1
    · cases hc
  | mp x v =>
    simp only [cleanCap] at hc
    split at hc
    · simp only [Option.some.injEq, Prod.mk.injEq] at hc
      obtain ⟨_, rfl⟩ := hc
      simp [nm1]
    · cases hc
  | mpc ks vs => simp only [cleanCap, Option.some.injEq, Prod.mk.injEq] at hc; obtain ⟨_, rfl⟩ := hc; simp
  | pm x v y =>
    simp only [cleanCap] at hc
    split at hc
    · split at hc
      · split at hc
        · split at hc
          · simp only [Option.some.injEq, Prod.mk.injEq] at hc
            obtain ⟨_, rfl⟩ := hc
            simp [nm1]
          · cases hc
        · cases hc
      · cases hc
    · cases hc
  | _ => exact one _ (fun _ _ _ h => by cases h) rfl hc
theorem cleanCaps_nm : ∀ {ds ds' : List D} {fr : List Nat}, cleanCaps h ds = some (ds', fr) → ∀ x ∈ fr, x ∈ ds.flatMap nm1
  | [], ds', fr, hc, x, hx => by
    simp only [cleanCaps, Option.some.injEq, Prod.mk.injEq] at hc
    obtain ⟨_, rfl⟩ := hc
    simp at hx
  | d :: ds, ds', fr, hc, x, hx => by
    simp only [cleanCaps] at hc
    split at hc
    · rename_i h1
      split at hc
      · rename_i h2
        simp only [Option.some.injEq, Prod.mk.injEq] at hc
        obtain ⟨_, rfl⟩ := hc
        rw [List.flatMap_cons]
        rcases List.mem_append.1 hx with hx | hx
        · exact List.mem_append_left _ (cleanCap_nm h1 x hx)
        · exact List.mem_append_right _ (cleanCaps_nm h2 x hx)
      · cases hc
    · cases hc
theorem cleanArg_nm {d d' : D} {fr : List Nat} (hc : cleanArg h d = some (d', fr)) : ∀ x ∈ fr, x ∈ nm d := by
  rcases clo_or d with ⟨f, kk, xs, rfl⟩ | hd
  · simp only [cleanArg] at hc
    split at hc
    · rename_i h1
      simp only [Option.some.injEq, Prod.mk.injEq] at hc
      obtain ⟨_, rfl⟩ := hc
      exact cleanCaps_nm h1
    · cases hc
  · rw [nm_of hd]
    rw [cleanArg_of h hd] at hc
    exact cleanCap_nm hc
theorem cleanArgs_nm : ∀ {ds ds' : List D} {fr : List Nat}, cleanArgs h ds = some (ds', fr) → ∀ x ∈ fr, ∃ d ∈ ds, x ∈ nm d
  | [], ds', fr, hc, x, hx => by
    simp only [cleanArgs, Option.some.injEq, Prod.mk.injEq] at hc
    obtain ⟨_, rfl⟩ := hc
    simp at hx
  | d :: ds, ds', fr, hc, x, hx => by
    simp only [cleanArgs] at hc
    split at hc
    · rename_i h1
      split at hc
      · rename_i h2
        simp only [Option.some.injEq, Prod.mk.injEq] at hc
        obtain ⟨_, rfl⟩ := hc
        rcases List.mem_append.1 hx with hx | hx
        · exact ⟨d, by simp, cleanArg_nm h1 x hx⟩
        · obtain ⟨d', hd', hx'⟩ := cleanArgs_nm h2 x hx
          exact ⟨d', by simp [hd'], hx'⟩
      · cases hc
    · cases hc
theorem fillD_congr {place : Nat → Option (Nat × Nat)} : ∀ {parts : List (Nat × D)} {cells : List D}, (∀ p ∈ parts, ∀ x ∈ nm p.2, h x = h' x) → fillD h place cells parts = fillD h' place cells parts
  | [], _, _ => rfl
  | (i, d) :: parts, cells, hx => by
    simp only [fillD]
    rw [cellsV_congr (hx (i, d) (by simp))]
    have ih : ∀ cells', fillD h place cells' parts = fillD h' place cells' parts := fun cells' => fillD_congr (fun p hp => hx p (by simp [hp]))
    simp only [ih]
theorem fillD_nm {place : Nat → Option (Nat × Nat)} : ∀ {parts : List (Nat × D)} {cells out : List D} {fr : List Nat}, fillD h place cells parts = some (out, fr) → ∀ x ∈ fr, ∃ p ∈ parts, x ∈ nm p.2
  | [], cells, out, fr, hc, x, hx => by
    simp only [fillD, Option.some.injEq, Prod.mk.injEq] at hc
    obtain ⟨_, rfl⟩ := hc
    simp at hx
  | (i, d) :: parts, cells, out, fr, hc, x, hx => by
    simp only [fillD] at hc
    split at hc
    · rename_i h1 h2
      split at hc
      · split at hc
        · rename_i h3
          simp only [Option.some.injEq, Prod.mk.injEq] at hc
          obtain ⟨_, rfl⟩ := hc
          rcases List.mem_append.1 hx with hx | hx
          · exact ⟨(i, d), by simp, cellsV_nm h2 x hx⟩
          · obtain ⟨p, hp, hx'⟩ := fillD_nm h3 x hx
            exact ⟨p, by simp [hp], hx'⟩
        · cases hc
      · cases hc
    · cases hc

theorem frz_names {fr : List Nat} {p : Nat × Option Row} (hp : p ∈ frz h fr) : p.1 ∈ fr := by
  unfold frz at hp
  obtain ⟨x, hx, rfl⟩ := List.mem_map.1 hp
  exact hx

theorem effLoad_congr {τ : Ty} {d : D} (hx : ∀ x ∈ nm d, h x = h' x) : effLoad τ h d = effLoad τ h' d := by
  cases d <;> try rfl
  simp only [effLoad]
  rw [live_congr (hx _ (by simp [nm, nm1]))]
theorem effLd_congr {τ : Ty} {d : D} (hx : ∀ x ∈ nm d, h x = h' x) : effLd τ h d = effLd τ h' d := by
  have hl := effLoad_congr (τ := τ) hx
  cases d with
  | ptr x v o =>
    simp only [effLd]
    rw [live_congr (hx x (by simp [nm, nm1]))]
    cases live h' x v with
    | none => rfl
    | some r => simp only [effLdR]; rw [hl]
  | pm x v y =>
    simp only [effLd]
    rw [live_congr (hx x (by simp [nm, nm1]))]
  | _ => exact hl
theorem effStore_congr {τ : Ty} {p d : D} (hp : ∀ x ∈ nm p, h x = h' x) (hx : ∀ x ∈ nm d, h x = h' x) : effStore τ h p d = effStore τ h' p d := by
  cases p <;> try rfl
  simp only [effStore]
  rw [live_congr (hp _ (by simp [nm, nm1])), cellsV_congr hx]
  cases live h' _ _ with
  | none => rfl
  | some r =>
    cases hc : cellsV h' d with
    | none => rfl
    | some q =>
      obtain ⟨cs, fr⟩ := q
      simp only
      rw [frz_congr (fr := fr) (fun x hxf => hx x (cellsV_nm hc x hxf))]
theorem effSto_congr {τ : Ty} {p d : D} (hp : ∀ x ∈ nm p, h x = h' x) (hx : ∀ x ∈ nm d, h x = h' x) : effSto τ h p d = effSto τ h' p d := by
  have hl := effStore_congr (τ := τ) hp hx
  cases d with
  | box1 y vy s oy n =>
    cases p with
    | ptr x v o =>
      simp only [effSto]
      rw [live_congr (hp _ (by simp [nm, nm1]))]
    | _ => rfl
  | mp y' v' =>
    cases p with
    | pm x v y =>
      simp only [effSto]
      rw [live_congr (hp x (by simp [nm, nm1])), liveM_congr (hp y (by simp [nm, nm1]))]
    | _ => rfl
  | _ => exact hl
theorem mapOf_congr {d : D} (hx : ∀ x ∈ nm d, h x = h' x) : mapOf h d = mapOf h' d := by
  cases d <;> try rfl
  simp only [mapOf]
  rw [liveM_congr (hx _ (by simp [nm, nm1]))]
theorem effLookup_congr {τ : Ty} {m i : D} {ok : Bool} (hx : ∀ x ∈ nm m, h x = h' x) : effLookup T τ h m i ok = effLookup T τ h' m i ok := by
  unfold effLookup
  rw [mapOf_congr hx]
theorem valM_congr {d : D} (hx : ∀ x ∈ nm d, h x = h' x) : valM h d = valM h' d := by
  cases d <;> first | rfl | (simp only [valM]; rw [clean1_congr hx])
theorem valM_nm {d d' : D} {fr : List Nat} (hc : valM h d = some (d', fr)) : ∀ x ∈ fr, x ∈ nm d := by
  cases d <;> simp only [valM] at hc <;> first
    | (simp only [Option.some.injEq, Prod.mk.injEq] at hc; obtain ⟨_, rfl⟩ := hc; simp; done)
    | (split at hc
       · rename_i h1
         simp only [Option.some.injEq, Prod.mk.injEq] at hc
         obtain ⟨_, rfl⟩ := hc
         exact clean1_nm h1
       · cases hc)
theorem effMapUpdate_congr {τ : Ty} {m i d : D} (hx : ∀ x ∈ nm m, h x = h' x) (hd : ∀ x ∈ nm d, h x = h' x) : effMapUpdate T τ h m i d = effMapUpdate T τ h' m i d := by
  unfold effMapUpdate
  rw [valM_congr hd]
  split
  · rename_i y v n d' fr _ hv
    have hy := hx y (by simp [nm, nm1])
    rw [hy, liveM_congr hy]
    rw [frz_congr (fun z hz => hd z (valM_nm hv z hz))]
  · rfl
theorem effNil_congr {d : D} (hx : ∀ x ∈ nm d, h x = h' x) : effNil h d = effNil h' d := by
  cases d <;> try rfl
  simp only [effNil]
  rw [live_congr (hx _ (by simp [nm, nm1]))]
theorem effField_congr {τ : Ty} {i : Nat} {d : D} (hx : ∀ x ∈ nm d, h x = h' x) : effField T τ h i d = effField T τ h' i d := by
  cases d <;> try rfl
  simp only [effField]
  rw [live_congr (hx _ (by simp [nm, nm1]))]
theorem effIndexAddr_congr {τ : Ty} {d i : D} (hx : ∀ x ∈ nm d, h x = h' x) : effIndexAddr T τ h d i = effIndexAddr T τ h' d i := by
  cases d <;> cases i <;> try rfl
  · simp only [effIndexAddr]
    rw [live_congr (hx _ (by simp [nm, nm1]))]
  · simp only [effIndexAddr]
    rw [live_congr (hx _ (by simp [nm, nm1]))]
theorem effSlice_congr {τ : Ty} {d : D} {lo hi mx : Option D} (hx : ∀ x ∈ nm d, h x = h' x) : effSlice T τ h d lo hi mx = effSlice T τ h' d lo hi mx := by
  cases d <;> try rfl
  simp only [effSlice]
  rw [live_congr (hx _ (by simp [nm, nm1]))]
theorem effBuild_congr {τ : Ty} {parts : List (Nat × D)} (hx : ∀ p ∈ parts, ∀ x ∈ nm p.2, h x = h' x) : effBuild T τ h parts = effBuild T τ h' parts := by
  unfold effBuild
  have h1 : ∀ pl cells, fillD h pl cells parts = fillD h' pl cells parts := fun pl cells => fillD_congr hx
  split
  · split
    · rw [h1]
      split
      · rename_i hf
        rw [frz_congr (fun x hxf => by obtain ⟨p, hp, hx'⟩ := fillD_nm hf x hxf; exact hx p hp x hx')]
      · rfl
    · rfl
  · rfl
theorem effBld_congr {q : Nat → Bool} {τ : Ty} {dst : Option Nat} {parts : List (Nat × D)} (hx : ∀ p ∈ parts, ∀ x ∈ nm p.2, h x = h' x) : effBld q T τ h dst parts = effBld q T τ h' dst parts := by
  have hb := effBuild_congr (T := T) (τ := τ) hx
  unfold effBld
  split
  · split
    · exact hb
    · split
      · rename_i x v s o n _
        have e : alive h (.buf x v s o n) = alive h' (.buf x v s o n) := by
          simp only [alive]
          rw [live_congr (hx (0, .buf x v s o n) (by simp) x (by simp [nm, nm1]))]
        rw [e]
      · rw [hb]
  · exact hb
theorem effBuildSlice_congr {τ : Ty} {d len : Nat} {parts : List (Nat × D)} (hx : ∀ p ∈ parts, ∀ x ∈ nm p.2, h x = h' x) : effBuildSlice T τ h e d len parts = effBuildSlice T τ h' e d len parts := by
  unfold effBuildSlice
  have h1 : ∀ pl cells, fillD h pl cells parts = fillD h' pl cells parts := fun pl cells => fillD_congr hx
  split
  · split
    · split
      · rw [h1]
        split
        · rename_i hf
          rw [frz_congr (fun x hxf => by obtain ⟨p, hp, hx'⟩ := fillD_nm hf x hxf; exact hx p hp x hx')]
        · rfl
      · rfl
    · rfl
  · rfl
theorem effAppend_congr {τ : Ty} {d : Nat} {s x : D} (hs : ∀ y ∈ nm s, h y = h' y) (hx : ∀ y ∈ nm x, h y = h' y) : effAppend T τ h e d s x = effAppend T τ h' e d s x := by
  unfold effAppend
  rw [content_congr hx]
  cases s <;> try rfl
  simp only
  rw [live_congr (hs _ (by simp [nm, nm1]))]
theorem alive_congr {d : D} (hx : ∀ x ∈ nm d, h x = h' x) : alive h d = alive h' d := by
  cases d <;> try rfl
  all_goals
    simp only [alive]
    rw [live_congr (hx _ (by simp [nm, nm1]))]
theorem effBuiltin_congr {dst : Option Nat} {b : Builtin} {tys : List Nat} {args : List D} (hx : ∀ d ∈ args, ∀ x ∈ nm d, h x = h' x) : effBuiltin T h e dst b tys args = effBuiltin T h' e dst b tys args := by
  unfold effBuiltin
  split
  · rw [alive_congr (hx _ (by simp))]
  · split
    · split
      · rw [effAppend_congr (hx _ (by simp)) (hx _ (by simp))]
      · rfl
    · rfl
  · rfl
  · rfl
  · rfl
theorem callC_congr {dst : Option Nat} {g : Nat} {args : List D} (hx : ∀ d ∈ args, ∀ x ∈ nm d, h x = h' x) : callC Γ h e dst g args = callC Γ h' e dst g args := by
  unfold callC
  rw [cleanArgs_congr hx]
  split
  · rename_i hf
    rw [frz_congr (fun x hxf => by obtain ⟨d, hd, hx'⟩ := cleanArgs_nm hf x hxf; exact hx d hd x hx')]
  · rfl
theorem callL_congr {dst : Option Nat} {g x v : Nat} {d0 : D} {args : List D} (h0 : h x = h' x) (hx : ∀ d ∈ args, ∀ x ∈ nm d, h x = h' x) : callL Γ h e dst g x v d0 args = callL Γ h' e dst g x v d0 args := by
  unfold callL
  rw [live_congr h0, cleanArgs_congr hx]
  split
  · split
    · split
      · rename_i hf
        rw [frz_congr (fun x hxf => by obtain ⟨d, hd, hx'⟩ := cleanArgs_nm hf x hxf; exact hx d hd x hx')]
      · rfl
    · rfl
  · rfl
theorem callI_congr {dst : Option Nat} {p : Nat × Nat × Nat} {args : List D} (hx : ∀ d ∈ args, ∀ x ∈ nm d, h x = h' x) : callI h e dst p args = callI h' e dst p args := by
  unfold callI
  split
  · rw [live_congr (hx _ List.mem_cons_self _ (by simp [nm, nm1])), live_congr (hx _ (List.mem_cons_of_mem _ (List.mem_cons_of_mem _ List.mem_cons_self)) _ (by simp [nm, nm1]))]
  · rfl
theorem effCall_congr {dst : Option Nat} {f : D} {args : List D} (hf : ∀ x ∈ nm f, h x = h' x) (hx : ∀ d ∈ args, ∀ x ∈ nm d, h x = h' x) : effCall Γ h e dst f args = effCall Γ h' e dst f args := by
  cases f <;> try rfl
  · rename_i g
    simp only [effCall]
    split
    · exact callI_congr hx
    split
    · split
      · exact callL_congr (hx _ List.mem_cons_self _ (by simp [nm, nm1])) (fun d hd => hx d (List.mem_cons_of_mem _ hd))
      · exact callL_congr (hx _ List.mem_cons_self _ (by simp [nm, nm1])) (fun d hd => hx d (List.mem_cons_of_mem _ hd))
      · rfl
    · exact callC_congr hx
  · rename_i g kk caps
    simp only [effCall]
    split
    · rename_i hok
      rw [List.all_eq_true] at hok
      have hcap : ∀ d ∈ caps, ∀ x ∈ nm d, h x = h' x := fun d hd x hxd => by
        have := hok d hd
        rw [nm_of (fun f kk xs he => by rw [he] at this; cases this)] at hxd
        exact hf x (List.mem_flatMap.2 ⟨d, hd, hxd⟩)
      refine callC_congr fun d hd => ?_
      rcases List.mem_append.1 hd with hd | hd
      · exact hcap d (List.mem_of_mem_take hd)
      · rcases List.mem_append.1 hd with hd | hd
        · exact hx d hd
        · exact hcap d (List.mem_of_mem_drop hd)
    · rfl
theorem effAssign_congr {ty : Nat} {dst : Option Nat} {x : D} (hx : ∀ y ∈ nm x, h y = h' y) : effAssign T ty e dst h x = effAssign T ty e dst h' x := by
  unfold effAssign
  split
  · rw [live_congr (hx _ (by simp [nm, nm1]))]
  · rfl
  · rfl

theorem clean2_congr {d : D} (hx : ∀ x ∈ nm d, h x = h' x) : clean2 h d = clean2 h' d := by
  by_cases hd : ∀ xs, d ≠ .agg xs
  · rw [clean2_ne hd, clean2_ne hd]
    exact clean1_congr hx
  · simp only [ne_eq, Classical.not_forall, Classical.not_not] at hd
    obtain ⟨xs, rfl⟩ := hd
    rfl
theorem clean2_nm {d d' : D} {fr : List Nat} (hc : clean2 h d = some (d', fr)) : ∀ x ∈ fr, x ∈ nm d := by
  by_cases hd : ∀ xs, d ≠ .agg xs
  · rw [clean2_ne hd] at hc
    exact clean1_nm hc
  · simp only [ne_eq, Classical.not_forall, Classical.not_not] at hd
    obtain ⟨xs, rfl⟩ := hd
    simp only [clean2, Option.some.injEq, Prod.mk.injEq] at hc
    obtain ⟨_, rfl⟩ := hc
    simp

theorem effAsg_congr {q : Nat → Bool} {ty : Nat} {dst : Option Nat} {x : D} (hx : ∀ y ∈ nm x, h y = h' y) : effAsg T q ty e dst h x = effAsg T q ty e dst h' x := by
  unfold effAsg effClean
  rw [clean2_congr hx]
  split
  · rw [effAssign_congr hx]
    split
    · rfl
    · split
      · rename_i hc
        rw [frz_congr fun y hy => hx y (clean2_nm hc y hy)]
      · rfl
  · exact effAssign_congr hx

/-- The rows that an operation looks at are those of 'touch'. -/
theorem eff_congr {vs : Operand → D} (hx : ∀ x ∈ touch o vs, h x = h' x) : eff T Γ e o vs h = eff T Γ e o vs h' := by
  have key : ∀ y, y ∈ o.op.operands.toList → (∀ a b c, o.op ≠ .pick a b c) → (∀ a, o.op ≠ .move a) → (∀ a b c, o.op ≠ .makeFunc a b c) → ∀ x ∈ nm (vs y), h x = h' x := by
    intro y hy h1 h2 h3 x hxm
    refine hx x ?_
    unfold touch
    split
    · rename_i ho; exact absurd ho (h2 _)
    · rename_i ho; exact absurd ho (h1 _ _ _)
    · rename_i ho; exact absurd ho (h3 _ _ _)
    · exact List.mem_append_left _ (List.mem_flatMap.2 ⟨y, hy, hxm⟩)
  unfold eff
  cases ho : o.op <;> (try simp only) <;> rw [ho] at key <;> try rfl
  case assign x => exact effAsg_congr (key x (by simp [Op.operands]) (by simp) (by simp) (by simp))
  case box ty x => rw [cellsV_congr (key x (by simp [Op.operands]) (by simp) (by simp) (by simp))]
                   split
                   · rename_i hc
                     rw [frz_congr (fun z hz => key x (by simp [Op.operands]) (by simp) (by simp) (by simp) z (cellsV_nm hc z hz))]
                   · rfl
  case load ty x => simp only [effLd_congr (key x (by simp [Op.operands]) (by simp) (by simp) (by simp))]
  case store ty x y => simp only [effSto_congr (key x (by simp [Op.operands]) (by simp) (by simp) (by simp)) (key y (by simp [Op.operands]) (by simp) (by simp) (by simp))]
  case nilCheck x => exact effNil_congr (key x (by simp [Op.operands]) (by simp) (by simp) (by simp))
  case fieldAddr ty x i => simp only [effField_congr (key x (by simp [Op.operands]) (by simp) (by simp) (by simp))]
  case makeMap ty res => cases res <;> rfl
  case lookup ty m i ok => simp only [effLookup_congr (key m (by simp [Op.operands]) (by simp) (by simp) (by simp))]
  case mapUpdate ty m i x => simp only [effMapUpdate_congr (key m (by simp [Op.operands]) (by simp) (by simp) (by simp)) (key x (by simp [Op.operands]) (by simp) (by simp) (by simp))]
  case insert ty m i x => simp only [effMapUpdate_congr (key m (by simp [Op.operands]) (by simp) (by simp) (by simp)) (key x (by simp [Op.operands]) (by simp) (by simp) (by simp))]
  case indexAddr ty x i => simp only [effIndexAddr_congr (key x (by simp [Op.operands]) (by simp) (by simp) (by simp))]
  case slice ty x lo hi mx => simp only [effSlice_congr (key x (by simp [Op.operands]) (by simp) (by simp) (by simp))]
  case build ty parts =>
    have : ∀ p ∈ parts.toList.map (fun p => (p.1, vs p.2)), ∀ x ∈ nm p.2, h x = h' x := by
      intro p hp x hx'
      obtain ⟨q, hq, rfl⟩ := List.mem_map.1 hp
      exact key q.2 (by simp only [Op.operands, List.toList_toArray]; exact List.mem_map.2 ⟨q, hq, rfl⟩) (by simp) (by simp) (by simp) x hx'
    simp only [effBld_congr this]
  case buildSlice ty len parts =>
    have : ∀ p ∈ parts.toList.map (fun p => (p.1, vs p.2)), ∀ x ∈ nm p.2, h x = h' x := by
      intro p hp x hx'
      obtain ⟨q, hq, rfl⟩ := List.mem_map.1 hp
      exact key q.2 (by simp only [Op.operands, List.toList_toArray]; exact List.mem_map.2 ⟨q, hq, rfl⟩) (by simp) (by simp) (by simp) x hx'
    simp only [effBuildSlice_congr this]
  case call c =>
    have : ∀ d ∈ c.args.toList.map vs, ∀ x ∈ nm d, h x = h' x := by
      intro d hd x hx'
      obtain ⟨y, hy, rfl⟩ := List.mem_map.1 hd
      exact key y (by simp only [Op.operands, Call.operands, Array.toList_append]; exact List.mem_append_right _ hy) (by simp) (by simp) (by simp) x hx'
    cases hc : c.callee with
    | value f => exact effCall_congr (key f (by simp [Op.operands, Call.operands, hc]) (by simp) (by simp) (by simp)) this
    | builtin b => exact effBuiltin_congr this
    | invoke _ _ => rfl

theorem eff_vs {vs vs' : Operand → D} (hx : ∀ y ∈ o.op.operands.toList, vs y = vs' y) : eff T Γ e o vs h = eff T Γ e o vs' h ∧ touch o vs = touch o vs' := by
  refine ⟨?_, ?_⟩
  · unfold eff
    cases ho : o.op <;> (try simp only) <;> rw [ho] at hx <;> try rfl
    case move x => rw [hx x (by simp [Op.operands])]
    case assign x => rw [hx x (by simp [Op.operands])]
    case pick a b c => rw [hx a (by simp [Op.operands]), hx b (by simp [Op.operands]), hx c (by simp [Op.operands])]
    case box ty x => rw [hx x (by simp [Op.operands])]
    case load ty x => rw [hx x (by simp [Op.operands])]
    case store ty x y => rw [hx x (by simp [Op.operands]), hx y (by simp [Op.operands])]
    case nilCheck x => rw [hx x (by simp [Op.operands])]
    case fieldAddr ty x i => rw [hx x (by simp [Op.operands])]
    case field ty x i => rw [hx x (by simp [Op.operands])]
    case makeMap ty res => cases res <;> rfl
    case lookup ty m i ok => rw [hx m (by simp [Op.operands]), hx i (by simp [Op.operands])]
    case mapUpdate ty m i x => rw [hx m (by simp [Op.operands]), hx i (by simp [Op.operands]), hx x (by simp [Op.operands])]
    case insert ty m i x => rw [hx m (by simp [Op.operands]), hx i (by simp [Op.operands]), hx x (by simp [Op.operands])]
    case indexAddr ty x i => rw [hx x (by simp [Op.operands]), hx i (by simp [Op.operands])]
    case index ty x i => rw [hx x (by simp [Op.operands]), hx i (by simp [Op.operands])]
    case slice ty x lo hi mx =>
      rw [hx x (by simp [Op.operands])]
      have e1 : lo.map vs = lo.map vs' := by cases lo with | none => rfl | some y => simp only [Option.map_some]; rw [hx y (by simp [Op.operands])]
      have e2 : hi.map vs = hi.map vs' := by cases hi with | none => rfl | some y => simp only [Option.map_some]; rw [hx y (by simp [Op.operands])]
      have e3 : mx.map vs = mx.map vs' := by cases mx with | none => rfl | some y => simp only [Option.map_some]; rw [hx y (by simp [Op.operands])]
      rw [e1, e2, e3]
    case build ty parts =>
      have : parts.toList.map (fun p => (p.1, vs p.2)) = parts.toList.map (fun p => (p.1, vs' p.2)) := List.map_congr_left fun p hp => by rw [hx p.2 (by simp only [Op.operands, List.toList_toArray]; exact List.mem_map.2 ⟨p, hp, rfl⟩)]
      rw [this]
    case buildSlice ty len parts =>
      have : parts.toList.map (fun p => (p.1, vs p.2)) = parts.toList.map (fun p => (p.1, vs' p.2)) := List.map_congr_left fun p hp => by rw [hx p.2 (by simp only [Op.operands, List.toList_toArray]; exact List.mem_map.2 ⟨p, hp, rfl⟩)]
      rw [this]
    case makeSlice ty l c => rw [hx l (by simp [Op.operands]), hx c (by simp [Op.operands])]
    case binOp op ty x y ty' => rw [hx x (by simp [Op.operands]), hx y (by simp [Op.operands])]
    case unOp op ty x => rw [hx x (by simp [Op.operands])]
    case convert s d x => rw [hx x (by simp [Op.operands])]
    case makeFunc fn first caps =>
      have : caps.toList.map vs = caps.toList.map vs' := List.map_congr_left fun y hy => hx y (by simp only [Op.operands, Array.toList_append]; exact List.mem_append_right _ hy)
      have this2 : first.toList.map vs = first.toList.map vs' := List.map_congr_left fun y hy => hx y (by simp only [Op.operands, Array.toList_append]; exact List.mem_append_left _ hy)
      rw [this, this2]
    case extract x i => rw [hx x (by simp [Op.operands])]
    case call c =>
      have : c.args.toList.map vs = c.args.toList.map vs' := List.map_congr_left fun y hy => hx y (by simp only [Op.operands, Call.operands, Array.toList_append]; exact List.mem_append_right _ hy)
      cases hc : c.callee with
      | value f => simp only; rw [this, hx f (by simp [Op.operands, Call.operands, hc])]
      | builtin b => simp only; rw [this]
      | invoke _ _ => rfl
  · have hfm : o.op.operands.toList.flatMap (fun y => nm (vs y)) = o.op.operands.toList.flatMap (fun y => nm (vs' y)) := by
      rw [List.flatMap_def, List.flatMap_def]
      congr 1
      exact List.map_congr_left fun y hy => by rw [hx y hy]
    unfold touch
    cases ho : o.op <;> simp only <;> rw [ho] at hfm <;> rw [hfm]
end
end Go.Proofs.YtdecgihkgpgejaaDoor.Am
