/- The variables of a clause: both ways to gather them give one list. -/
import Derived.Test.YtkbeimibpeofbaaGreatFnF
set_option linter.unusedSimpArgs false
set_option linter.unusedVariables false
namespace Go.Proofs.Tryz
open Go Go.Sim Go.Braid

abbrev Asc (l : List Int) : Prop := l.Pairwise (· < ·)
theorem numAdd_mem (l : List Int) (n x : Int) : x ∈ numAdd l n ↔ x ∈ l ∨ x = n := by
  unfold numAdd
  split
  · rename_i h
    exact ⟨.inl, fun h2 => h2.elim id fun e => e ▸ h⟩
  · simp only [List.mem_append, List.mem_singleton]
    constructor
    · rintro ((h | h) | h)
      · exact .inl (List.mem_of_mem_take h)
      · exact .inr h
      · exact .inl (List.mem_of_mem_drop h)
    · rintro (h | h)
      · rw [← List.take_append_drop (under l n) l, List.mem_append] at h
        rcases h with h | h
        · exact .inl (.inl h)
        · exact .inr h
      · exact .inl (.inr h)
theorem under_take (l : List Int) (n : Int) : ∀ x ∈ l.take (under l n), x < n := by
  induction l with
  | nil => simp
  | cons y l ih =>
    rw [under_cons]
    split
    · rename_i h
      intro x hx
      rw [List.take_succ_cons] at hx
      rcases List.mem_cons.1 hx with rfl | hx
      · exact h
      · exact ih x hx
    · simp
theorem under_drop {l : List Int} (hl : Asc l) (n : Int) : ∀ x ∈ l.drop (under l n), n ≤ x := by
  induction l with
  | nil => simp
  | cons y l ih =>
    have hl := List.pairwise_cons.1 hl
    rw [under_cons]
    split
    · rename_i h
      intro x hx
      rw [List.drop_succ_cons] at hx
      exact ih hl.2 x hx
    · rename_i h
      intro x hx
      rw [List.drop_zero] at hx
      rcases List.mem_cons.1 hx with rfl | hx
      · omega
      · have := hl.1 x hx; omega
theorem numAdd_asc {l : List Int} (hl : Asc l) (n : Int) : Asc (numAdd l n) := by
  unfold numAdd
  split
  · exact hl
  · rename_i hn
    have h1 := under_take l n
    have h2 := under_drop hl n
    rw [List.append_assoc]
    refine List.pairwise_append.2 ⟨hl.sublist (List.take_sublist _ _), ?_, ?_⟩
    · rw [List.singleton_append]
      refine List.pairwise_cons.2 ⟨fun x hx => ?_, hl.sublist (List.drop_sublist _ _)⟩
      have h3 := h2 x hx
      have h4 : x ≠ n := fun e => hn (e ▸ List.mem_of_mem_drop hx)
      omega
    · intro a ha b hb
      have h3 := h1 a ha
      rcases List.mem_append.1 hb with hb | hb
      · rw [List.mem_singleton.1 hb]; exact h3
      · have := h2 b hb; omega
theorem addAll_mem : ∀ (xs l : List Int) (x : Int), x ∈ addAll l xs ↔ x ∈ l ∨ x ∈ xs
  | [], l, x => by simp [addAll]
  | y :: xs, l, x => by
    have := addAll_mem xs (numAdd l y) x
    rw [show addAll l (y :: xs) = addAll (numAdd l y) xs from rfl, this, numAdd_mem, List.mem_cons, or_assoc]
theorem addAll_asc : ∀ (xs : List Int) {l : List Int}, Asc l → Asc (addAll l xs)
  | [], l, h => h
  | y :: xs, l, h => addAll_asc xs (numAdd_asc h y)
theorem asc_ext : ∀ {l m : List Int}, Asc l → Asc m → (∀ x, x ∈ l ↔ x ∈ m) → l = m
  | [], [], _, _, _ => rfl
  | [], y :: m, _, _, h => absurd ((h y).2 (by simp)) (by simp)
  | x :: l, [], _, _, h => absurd ((h x).1 (by simp)) (by simp)
  | x :: l, y :: m, hl, hm, h => by
    have hl := List.pairwise_cons.1 hl
    have hm := List.pairwise_cons.1 hm
    have hxy : x = y := by
      have h1 := (h x).1 (by simp)
      have h2 := (h y).2 (by simp)
      rcases List.mem_cons.1 h1 with e | h1
      · exact e
      · rcases List.mem_cons.1 h2 with e | h2
        · exact e.symm
        · have := hl.1 y h2; have := hm.1 x h1; omega
    subst hxy
    congr 1
    refine asc_ext hl.2 hm.2 fun z => ?_
    have hz := h z
    simp only [List.mem_cons] at hz
    constructor
    · intro h1
      rcases hz.1 (.inr h1) with e | h2
      · have := hl.1 z h1; omega
      · exact h2
    · intro h1
      rcases hz.2 (.inr h1) with e | h2
      · have := hm.1 z h1; omega
      · exact h2
theorem varsC_eq (c : List Lt) : addAll [] (occC2 c) = varsC c := by
  refine asc_ext (addAll_asc _ List.Pairwise.nil) (addAll_asc _ List.Pairwise.nil) fun x => ?_
  rw [addAll_mem, varsC, addAll_mem]
  simp only [List.not_mem_nil, false_or, occC2, occC, List.mem_flatMap, List.mem_append, varsT, addAll_mem]
theorem asc_nodup {l : List Int} (h : Asc l) : l.Nodup := h.imp fun h => by omega
theorem varsC_asc (c : List Lt) : Asc (varsC c) := addAll_asc _ List.Pairwise.nil
theorem varsC_mem (c : List Lt) (x : Int) : x ∈ varsC c ↔ ∃ l ∈ c, x ∈ occ l.l ∨ x ∈ occ l.r := by
  rw [varsC, addAll_mem]
  simp [occC, List.mem_flatMap]
theorem occ_form {s : List Sym} : ∀ (t : Tm), formB s t = true → ∀ x ∈ occ t, 0 ≤ x ∧ x ≤ 99 := by
  intro t
  induction t using Tm.ind with
  | h f v ks ih =>
    intro hf x hx
    rw [occ] at hx
    rw [formB] at hf
    split at hf
    · rename_i h1
      simp only [Bool.and_eq_true, decide_eq_true_eq] at hf
      have hk : ks = [] := List.length_eq_zero_iff.1 hf.2
      rw [if_pos h1, hk, occL, List.append_nil] at hx
      rw [List.mem_singleton.1 hx]; exact hf.1
    · rename_i h1
      rw [if_neg h1, List.nil_append] at hx
      simp only [Bool.and_eq_true] at hf
      have key : ∀ (p : Option Tm) (ks : List Tm), (∀ k ∈ ks, formB s k = true → ∀ x ∈ occ k, 0 ≤ x ∧ x ≤ 99) → formL s f p ks = true → x ∈ occL ks → 0 ≤ x ∧ x ≤ 99 := by
        intro p ks
        induction ks generalizing p with
        | nil => intro _ _ h; simp [occL] at h
        | cons k ks ih2 =>
          intro h2 h3 h4
          rw [formL] at h3
          simp only [Bool.and_eq_true] at h3
          rw [occL] at h4
          rcases List.mem_append.1 h4 with h4 | h4
          · exact h2 k (by simp) h3.1.1 x h4
          · exact ih2 _ (fun y hy => h2 y (by simp [hy])) h3.2 h4
      exact key _ _ ih hf.2 hx
theorem clause_good {s : List Sym} {c : List Lt} (h : clauseB s c = true) : ∀ l ∈ c, formB s l.l = true ∧ formB s l.r = true := by
  have key : ∀ (c : List Lt) (p : Option Lt), clL s p c = true → ∀ l ∈ c, formB s l.l = true ∧ formB s l.r = true := by
    intro c
    induction c with
    | nil => intro p _ l hl; cases hl
    | cons x c ih =>
      intro p hp l hl
      rw [clL] at hp
      simp only [Bool.and_eq_true] at hp
      rcases List.mem_cons.1 hl with rfl | hl
      · have := hp.1.1
        simp only [litB, termB, Bool.and_eq_true] at this
        exact ⟨this.1.1.2, this.1.2.2⟩
      · exact ih _ hp.2 l hl
  simp only [clauseB, Bool.and_eq_true] at h
  exact key c none h.1
theorem clause_vars {s : List Sym} {c : List Lt} (h : clauseB s c = true) : ∀ v ∈ varsC c, 0 ≤ v ∧ v ≤ 99 := by
  intro v hv
  obtain ⟨l, hl, hx⟩ := (varsC_mem c v).1 hv
  have := clause_good h l hl
  exact hx.elim (occ_form _ this.1 v) (occ_form _ this.2 v)
end Go.Proofs.Tryz
