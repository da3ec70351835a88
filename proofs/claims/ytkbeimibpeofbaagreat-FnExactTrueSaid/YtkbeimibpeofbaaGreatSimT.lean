/- The abstract machine's steps are the machine's: what is frozen; the plain operations. -/
import Derived.Test.YtkbeimibpeofbaaGreatSimS
namespace Go.Sim

structure Good (P : Program) (n : Nat) (env : Nat → AV) (obs : Ref → Option Ob) (o : Oper) (s : Step) : Prop where
  step : LStep P n o s
  need : ∀ p ∈ s.need, evAV env p.1 = p.2
  read : ∀ p ∈ s.R, obs p.1 = some p.2
  new : ∀ r ∈ s.Nw, obs r = none

theorem freezeO_arr {o : Ob} (h : ∀ cells, o ≠ .box cells) : ∃ e sz rows wr, o = .arr e sz rows wr ∧ freezeO o = .arr e sz rows false := by
  cases o with
  | box cells => exact absurd rfl (h cells)
  | arr e sz rows wr => exact ⟨e, sz, rows, wr, rfl, rfl⟩

def isArr : Option Ob → Bool
  | some (.arr _ _ _ _) => true
  | _ => false

/-- Some arrays are frozen. -/
theorem freeze_all {C : Ctx} {n : Nat} {env : Nat → AV} {a : Act} : ∀ (Z : List Ref) {M : Mem}, Rel C n env M a → (∀ r ∈ Z, isArr (M.obs r) = true) →
    ∃ M1, M1.w = M.w ∧ Rel C n env M1 a ∧ M1.obs = obsZ M.obs Z ∧ Stab M M1 := by
  intro Z
  induction Z with
  | nil => intro M hR _; exact ⟨M, rfl, hR, by funext r; simp [obsZ], Stab.refl M⟩
  | cons r Z ih =>
    intro M hR hZ
    have hr := hZ r (.head _)
    cases hm : M.obs r with
    | none => rw [hm] at hr; cases hr
    | some o =>
      cases o with
      | box cells => rw [hm] at hr; cases hr
      | arr e sz rows wr =>
        obtain ⟨Pr', hst, hok⟩ := freeze_arr hR.mem hm
        have hR1 : Rel C n env (M.put r (.arr e sz rows false) (M.mu r) Pr' M.w) a := ⟨hR.size, hR.defers, fun t => hst.repV (hR.env t), hok⟩
        have ho1 : (M.put r (.arr e sz rows false) (M.mu r) Pr' M.w).obs = upd M.obs r (some (.arr e sz rows false)) := rfl
        obtain ⟨M1, hw, hR2, ho2, hst2⟩ := ih hR1 (fun q hq => by
          rw [ho1]
          by_cases hqr : q = r
          · simp [upd, hqr, isArr]
          · simp only [upd, hqr, if_false]
            exact hZ q (.tail _ hq))
        refine ⟨M1, hw, hR2, ?_, hst.trans hst2⟩
        rw [ho2, ho1]
        funext q
        unfold obsZ
        by_cases hqr : q = r
        · subst hqr
          by_cases hq : q ∈ Z <;> simp [upd, hq, hm, freezeO]
        · by_cases hq : q ∈ Z <;> simp [upd, hq, hqr]

theorem lookR_append (U V : List (Ref × Ob)) (r : Ref) : lookR (U ++ V) r = match lookR U r with
    | some o => some o
    | none => lookR V r := by
  induction U with
  | nil => rfl
  | cons p U ih =>
    simp only [List.cons_append, lookR]
    split
    · rfl
    · exact ih

theorem lookR_freeze (obs : Ref → Option Ob) : ∀ (Z : List Ref) (r : Ref), (∀ q ∈ Z, isArr (obs q) = true) →
    lookR (Z.filterMap (fun r => (obs r).map fun o => (r, freezeO o))) r = if r ∈ Z then (obs r).map freezeO else none := by
  intro Z
  induction Z with
  | nil => intro r _; simp [lookR]
  | cons q Z ih =>
    intro r h
    have hq := h q (.head _)
    cases hm : obs q with
    | none => rw [hm] at hq; cases hq
    | some o =>
      simp only [List.filterMap_cons, hm, Option.map_some, lookR]
      by_cases hr : r = q
      · subst hr; simp [hm]
      · rw [if_neg hr, ih r (fun p hp => h p (.tail _ hp))]
        simp [hr]

theorem Good.freeze {P : Program} {n : Nat} {env : Nat → AV} {obs : Ref → Option Ob} {o : Oper} {s : Step} (Z : List Ref) (hZ : ∀ r ∈ Z, isArr (obs r) = true) (h : Good P n env (obsZ obs Z) o s) :
    Good P n env obs o (s.freeze obs Z) := by
  cases Z with
  | nil =>
    have he : obsZ obs [] = obs := by funext r; simp [obsZ]
    rw [he] at h
    exact h
  | cons z Z' =>
    generalize hZe : z :: Z' = Z at *
    have hs : s.freeze obs Z = ⟨s.need, Z.filterMap (fun r => (obs r).map fun o => (r, o)) ++ s.R.filter (fun p => decide (p.1 ∉ Z)), s.Nw, s.v, s.U ++ Z.filterMap (fun r => (obs r).map fun o => (r, freezeO o))⟩ := by
      subst hZe; rfl
    rw [hs]
    refine ⟨?_, h.need, ?_, ?_⟩
    · intro C env' M a K Q hR h1 h2 h3 hK
      have hob : ∀ r ∈ Z, M.obs r = obs r := by
        intro r hr
        have := hZ r hr
        cases hm : obs r with
        | none => rw [hm] at this; cases this
        | some ob => exact h2 (r, ob) (List.mem_append_left _ (List.mem_filterMap.2 ⟨r, hr, by simp [hm]⟩))
      obtain ⟨M1, hw, hR1, ho1, _⟩ := freeze_all Z hR (fun r hr => by rw [hob r hr]; exact hZ r hr)
      rw [← hw]
      refine h.step C env' M1 a K Q hR1 h1 (fun p hp => ?_) (fun r hr => ?_) (fun M' a' hR' ho' => hK M' a' hR' ?_)
      · rw [ho1]
        by_cases hpZ : p.1 ∈ Z
        · have := h.read p hp
          simp only [obsZ, hpZ, if_true] at this ⊢
          rw [hob _ hpZ]
          exact this
        · simp only [obsZ, hpZ, if_false]
          exact h2 p (List.mem_append_right _ (List.mem_filter.2 ⟨hp, by simp [hpZ]⟩))
      · have h4 := h3 r hr
        rw [ho1]
        by_cases hrZ : r ∈ Z <;> simp [obsZ, hrZ, h4]
      · rw [ho', ho1]
        funext r
        unfold updAll
        rw [lookR_append, lookR_freeze obs Z r hZ]
        cases lookR s.U r with
        | some o => rfl
        | none =>
          by_cases hrZ : r ∈ Z
          · simp only [obsZ, hrZ, if_true]
            rw [hob r hrZ]
            have := hZ r hrZ
            cases hm : obs r with
            | none => rw [hm] at this; cases this
            | some ob => rfl
          · simp [obsZ, hrZ]
    · intro p hp
      rcases List.mem_append.1 hp with hp | hp
      · obtain ⟨r, hr, hm⟩ := List.mem_filterMap.1 hp
        cases ho : obs r with
        | none => simp [ho] at hm
        | some ob =>
          simp only [ho, Option.map_some, Option.some.injEq] at hm
          subst hm
          exact ho
      · obtain ⟨hp, hn⟩ := List.mem_filter.1 hp
        have := h.read p hp
        have hn : p.1 ∉ Z := by simpa using hn
        simpa [obsZ, hn] using this
    · intro r hr
      have := h.new r hr
      by_cases hrZ : r ∈ Z
      · simpa [obsZ, hrZ] using this
      · simpa [obsZ, hrZ] using this

theorem frzS_arr {obs : Ref → Option Ob} {x : AV} : ∀ r ∈ frzS obs x, isArr (obs r) = true := by
  intro r hr
  cases x with
  | own q m =>
    simp only [frzS] at hr
    split at hr
    · rename_i h
      have : r = q := by simpa using hr
      subst this
      rw [h]
      rfl
    · cases hr
  | _ => cases hr

theorem when_some {b : Bool} {s t : Step} (h : when b s = some t) : b = true ∧ s = t := by
  cases b with
  | false => cases h
  | true => exact ⟨rfl, Option.some.inj h⟩

theorem clB_ok {obs : Ref → Option Ob} {x : AV} (h : clB obs x = true) : clOk obs x := by
  cases x with
  | own r m =>
    simp only [clB] at h
    simp only [clOk]
    split at h
    · rename_i e sz rows wr hr
      rw [hr]
      simpa using h
    · cases h
  | bool b => trivial
  | int k i => trivial
  | str s => trivial
  | sl rows => trivial
  | nils => trivial
  | _ => cases h

theorem rowsB_ok {obs : Ref → Option Ob} {x : AV} (h : rowsB obs x = true) : rowsOk obs x := by
  cases x with
  | own r m =>
    simp only [rowsB] at h
    simp only [rowsOk]
    split at h
    · rename_i e sz rows wr hr
      rw [hr]
      simpa using h
    · cases h
  | sl rows => trivial
  | nils => trivial
  | _ => cases h

theorem allP_of {α : Type} {p : α → Prop} : ∀ {l : List α}, (∀ x ∈ l, p x) → allP p l := by
  intro l
  induction l with
  | nil => intro _; trivial
  | cons x xs ih => intro h; exact ⟨h x (.head _), ih fun y hy => h y (.tail _ hy)⟩

theorem rowLens_mem {sz : Nat} {rows : List (List AV)} (h : rowLens sz rows = true) : ∀ row ∈ rows, row.length = sz := fun row hr => by
  have := List.all_eq_true.1 h row hr
  simpa using this

theorem refs1_mem {obs : Ref → Option Ob} {x : AV} : ∀ p ∈ refs1 obs x, obs p.1 = some p.2 := by
  intro p hp
  cases x with
  | own r m =>
    simp only [refs1] at hp
    split at hp
    · rename_i ob h
      have : p = (r, ob) := by simpa using hp
      subst this
      exact h
    · cases hp
  | _ => cases hp

end Go.Sim
