/- What is within terms. -/
import Derived.Test.YtkbeimibpeofbaaGreatFnB
set_option linter.unusedSimpArgs false
set_option linter.unusedVariables false
namespace Go.Proofs.Tryz
open Go Go.Sim Go.Braid

theorem ev_Parts_1 (t : Tm) (n : Nat) (h : Small n) : EV prog cfg 210 [.agg (cellsT t), .ptr (.out 0) 0] [.box [.int .i64 n]] = some (.tup [], [.box [.int .i64 ((n + 1 : Nat) : Int)]]) := by
  rw [← wrap_succ (Nat.lt_succ_self n) (by omega)]
  (refine EV_k rfl func210 (by rw [f210]) (by rw [f210]; rfl) (by rw [f210]; rfl) ?_; rw [ntmps210]; (conv => lhs; whnf))
  rfl

theorem ev_each_Parts : ∀ (t : Tm) (n : Nat), Small (n + nodes t) → EV prog cfg 155 [.agg (cellsT t), .clo 210 [.out 0]] [.box [.int .i64 n]] = some (.tup [], [.box [.int .i64 ((n + nodes t : Nat) : Int)]]) := by
  intro t
  induction t using Tm.ind with
  | h f v ks ihk =>
    intro n ha
    generalize hA : Tm.mk f v ks = t at ha ⊢
    have hk : t.kids = ks := by rw [← hA]; rfl
    have hkl := nodes_len t
    have hkk := nodes_kids t
    (refine EV_k rfl func155 (by rw [f155]) (by rw [f155]; rfl) (by rw [f155]; rfl) ?_; rw [ntmps155]; (conv => lhs; whnf))
    (refine vuK_of (v_call rfl rfl (ev_Parts_1 t n (by omega)) rfl rfl) ?_; (conv => lhs; whnf))
    refine loop_for (β := Nat) (fun z m => ⟨[(1, .clo 210 [.out 0]), (10, .sl (rowsT t.kids)), (11, .int .i64 (rowsT t.kids).length), (12, .int .i64 z)], [(.out 0, .box [.int .i64 m])]⟩) t.kids.length
      (fun i m => m + nodesL (t.kids.drop i) = n + nodes t) (fun i m => some (.tup [], [.box [.int .i64 ((n + nodes t : Nat) : Int)]])) (n + 1) rfl rfl (by simp only [List.drop_zero]; omega) ?_
    intro i m hi hI ih
    refine round_of ?_
    (conv => lhs; whnf)
    ((repeat (first | refine br_t ?_ | refine br_f ?_ | refine br_not ?_)); first | refine br_lt (fun h => ?_) (fun h => ?_) | refine br_le (fun h => ?_) (fun h => ?_) | refine br_eq (fun h => ?_) (fun h => ?_) | refine br_b (fun h => ?_) (fun h => ?_)) <;> (conv => lhs; whnf) <;> rw [rowsT_length] at h
    · have hlt : i < t.kids.length := by omega
      (refine vuK_of (v_idx (rowsT_get hlt) rfl rfl rfl rfl) ?_; (conv => lhs; whnf))
      rw [List.drop_eq_getElem_cons hlt, nodesL] at hI
      (refine vuK_of (v_call rfl rfl (ihk t.kids[i] (by rw [← hk]; exact List.getElem_mem hlt) m (by omega)) rfl rfl) ?_; (conv => lhs; whnf))
      exact ih _ _ (m + nodes t.kids[i]) rfl (wrap_succ hlt (by omega)) hlt (by omega)
    · rw [List.drop_eq_nil_of_le (by omega), nodesL] at hI
      rw [← hI]
      rfl

theorem ev_Parts (t : Tm) (ha : Small (nodes t)) : EV prog cfg 179 [.agg (cellsT t)] [] = some (.int .i64 (nodes t), []) := by
  (refine EV_k rfl func179 (by rw [f179]) (by rw [f179]; rfl) (by rw [f179]; rfl) ?_; rw [ntmps179]; (conv => lhs; whnf))
  (refine vuK_of (v_call rfl rfl (ev_each_Parts t 0 (by omega)) rfl rfl) ?_; (conv => lhs; whnf))
  exact res_int (by rw [Nat.zero_add])

theorem ev_spec_Parts : ∀ (t : Tm), Small (nodes t) → EV prog cfg 187 [.agg (cellsT t)] [] = some (.int .i64 (nodes t), []) := by
  intro t
  induction t using Tm.ind with
  | h f v ks ihk =>
    intro ha
    generalize hA : Tm.mk f v ks = t at ha ⊢
    have hk : t.kids = ks := by rw [← hA]; rfl
    have hkl := nodes_len t
    have hkk := nodes_kids t
    (refine EV_k rfl func187 (by rw [f187]) (by rw [f187]; rfl) (by rw [f187]; rfl) ?_; rw [ntmps187]; (conv => lhs; whnf))
    refine loop_for (β := Nat) (fun z m => ⟨[(1, .ptr (.loc 0 0) 0), (3, .int .i64 m), (4, .int .i64 z)], [(.loc 0 0, .box (cellsT t))]⟩) t.kids.length
      (fun i m => m + nodesL (t.kids.drop i) = nodes t) (fun i m => some (.int .i64 (nodes t), [])) 1 rfl rfl (by simp only [List.drop_zero]; omega) ?_
    intro i m hi hI ih
    refine round_of ?_
    (conv => lhs; whnf)
    ((repeat (first | refine br_t ?_ | refine br_f ?_ | refine br_not ?_)); first | refine br_lt (fun h => ?_) (fun h => ?_) | refine br_le (fun h => ?_) (fun h => ?_) | refine br_eq (fun h => ?_) (fun h => ?_) | refine br_b (fun h => ?_) (fun h => ?_)) <;> (conv => lhs; whnf) <;> rw [rowsT_length] at h
    · have hlt : i < t.kids.length := by omega
      (refine vuK_of (v_idx (rowsT_get hlt) rfl rfl rfl rfl) ?_; (conv => lhs; whnf))
      rw [List.drop_eq_getElem_cons hlt, nodesL] at hI
      have hm := nodes_kid (List.getElem_mem hlt : t.kids[i] ∈ t.kids)
      (refine vuK_of (v_call rfl rfl (ihk t.kids[i] (by rw [← hk]; exact List.getElem_mem hlt) (by omega)) rfl rfl) ?_; (conv => lhs; whnf))
      refine ih _ _ (m + nodes t.kids[i]) ?_ (wrap_succ hlt (by omega)) hlt (by omega)
      rw [show ((m + nodes t.kids[i] : Nat) : Int) = IntKind.wrap .i64 ((m : Int) + (nodes t.kids[i] : Int)) from (wrap_ok (by omega) (by omega)).symm]
      rfl
    · rw [List.drop_eq_nil_of_le (by omega), nodesL] at hI
      rw [← hI]
      rfl

/-! ### Terms as they must be -/
def arAt (s : List Sym) (f : Int) : Int := match s[f.toNat]? with
  | some y => y.arity
  | none => 0
/-- The test of a function's own. -/
def ownOk (s : List Sym) (f v : Int) (n : Nat) : Bool := decide (0 ≤ f ∧ f < s.length) && decide (v = 0) && (if acAt s f = true then decide (2 ≤ n) else decide ((n : Int) = arAt s f))
def prevOk (k : Tm) : Option Tm → Bool
  | none => true
  | some q => !decide (cmpT k q < 0)
mutual
def formB (s : List Sym) : Tm → Bool
  | .mk f v ks => if f = -1 then decide (0 ≤ v ∧ v ≤ 99) && decide (ks.length = 0) else ownOk s f v ks.length && formL s f none ks
def formL (s : List Sym) (f : Int) : Option Tm → List Tm → Bool
  | _, [] => true
  | p, k :: ks => formB s k && (!acAt s f || (!decide (k.f = f) && prevOk k p)) && formL s f (some k) ks
end
theorem formB_eq (s : List Sym) (t : Tm) : formB s t = if t.f = -1 then decide (0 ≤ t.v ∧ t.v ≤ 99) && decide (t.kids.length = 0) else ownOk s t.f t.v t.kids.length && formL s t.f none t.kids := by cases t; rw [formB]; rfl

theorem acAt_in {s : List Sym} {n : Nat} (h : n < s.length) : acAt s (n : Int) = s[n].ac := by simp [acAt, h]
theorem arAt_in {s : List Sym} {n : Nat} (h : n < s.length) : arAt s (n : Int) = s[n].arity := by simp [arAt, h]

theorem sig_at {s : List Sym} {f : Int} (h0 : 0 ≤ f) (h1 : f < s.length) : ∃ y, y ∈ s ∧ s[f.toNat]? = some y ∧ (rowsS s)[f.toNat]? = some (cellsS y) ∧ acAt s f = y.ac ∧ arAt s f = y.arity := by
  have h : f.toNat < s.length := by omega
  refine ⟨s[f.toNat], List.getElem_mem h, List.getElem?_eq_getElem h, rowsS_get h, ?_, ?_⟩
  · simp [acAt, h0, h]
  · simp [arAt, h]

def prevAt (l : List Tm) : Nat → Option Tm
  | 0 => none
  | i + 1 => l[i]?
theorem formL_drop (s : List Sym) (f : Int) (l : List Tm) {i : Nat} (h : i < l.length) : formL s f (prevAt l i) (l.drop i) = (formB s l[i] && (!acAt s f || (!decide (l[i].f = f) && prevOk l[i] (prevAt l i))) && formL s f (prevAt l (i + 1)) (l.drop (i + 1))) := by
  rw [List.drop_eq_getElem_cons h, formL, prevAt, List.getElem?_eq_getElem h]
theorem formL_end (s : List Sym) (f : Int) (l : List Tm) {i : Nat} (h : l.length ≤ i) : formL s f (prevAt l i) (l.drop i) = true := by
  rw [List.drop_eq_nil_of_le h, formL]

set_option maxHeartbeats 2000000 in
theorem ev_formOk (s : List Sym) (hs : Small s.length) : ∀ (t : Tm), Small (nodes t) → EV prog cfg 180 [.sl (rowsS s), .agg (cellsT t)] [] = some (.bool (formB s t), []) := by
  intro t
  induction t using Tm.ind with
  | h f v ks ihk =>
    intro ha
    generalize hA : Tm.mk f v ks = t at ha ⊢
    have hk : t.kids = ks := by rw [← hA]; rfl
    have hkl := nodes_len t
    rw [formB_eq]
    (refine EV_k rfl func180 (by rw [f180]) (by rw [f180]; rfl) (by rw [f180]; rfl) ?_; rw [ntmps180]; (conv => lhs; whnf))
    (refine vuK_of (v_call rfl rfl (ev_isVar t) rfl rfl) ?_; (conv => lhs; whnf))
    ((repeat (first | refine br_t ?_ | refine br_f ?_ | refine br_not ?_)); first | refine br_lt (fun h1 => ?_) (fun h1 => ?_) | refine br_le (fun h1 => ?_) (fun h1 => ?_) | refine br_eq (fun h1 => ?_) (fun h1 => ?_) | refine br_b (fun h1 => ?_) (fun h1 => ?_)) <;> (conv => lhs; whnf)
    · have h1 : t.f = -1 := by simpa using h1
      rw [if_pos h1]
      (refine vuK_of (v_call rfl rfl (ev_from _ _ _) rfl rfl) ?_; (conv => lhs; whnf))
      ((repeat (first | refine br_t ?_ | refine br_f ?_ | refine br_not ?_)); first | refine br_lt (fun h2 => ?_) (fun h2 => ?_) | refine br_le (fun h2 => ?_) (fun h2 => ?_) | refine br_eq (fun h2 => ?_) (fun h2 => ?_) | refine br_b (fun h2 => ?_) (fun h2 => ?_)) <;> (conv => lhs; whnf)
      · refine res_bool ?_
        rw [h2, eqI_eq, rowsT_length, Bool.true_and, decide_eq_decide]
        omega
      · rw [h2]; rfl
    · have h1 : ¬ t.f = -1 := by simpa using h1
      rw [if_neg h1]
      (refine vuK_of (v_call rfl rfl (ev_isSym s t.f hs) rfl rfl) ?_; (conv => lhs; whnf))
      ((repeat (first | refine br_t ?_ | refine br_f ?_ | refine br_not ?_)); first | refine br_lt (fun h2 => ?_) (fun h2 => ?_) | refine br_le (fun h2 => ?_) (fun h2 => ?_) | refine br_eq (fun h2 => ?_) (fun h2 => ?_) | refine br_b (fun h2 => ?_) (fun h2 => ?_)) <;> (conv => lhs; whnf)
      · have h20 := h2
        have h2 : 0 ≤ t.f ∧ t.f < s.length := by simpa using h2
        obtain ⟨y, hym, hy0, hy, hac, har⟩ := sig_at h2.1 h2.2
        obtain ⟨nm, ar, ac⟩ := y
        cases ac
        all_goals (repeat (any_goals (first | (refine vuK_of (v_index_sl rfl rfl rfl hy h2.1 rfl) ?_; (conv => lhs; whnf)) | (((repeat (first | refine br_t ?_ | refine br_f ?_ | refine br_not ?_)); first | refine br_lt (fun hh => ?_) (fun hh => ?_) | refine br_le (fun hh => ?_) (fun hh => ?_) | refine br_eq (fun hh => ?_) (fun hh => ?_) | refine br_b (fun hh => ?_) (fun hh => ?_)) <;> (conv => lhs; whnf)))))
        all_goals first
          | (refine (res_bool (z := false) (z' := ownOk s t.f t.v t.kids.length && formL s t.f none t.kids) ?_); rw [show ownOk s t.f t.v t.kids.length = false by (simp only [ownOk, hac, har, h20]; simp_all [rowsT_length] <;> omega)]; rfl)
          | skip
        all_goals rw [show ownOk s t.f t.v t.kids.length = true by (simp only [ownOk, hac, har, h20]; simp_all [rowsT_length] <;> omega), Bool.true_and]
        all_goals
          refine loop_nat (fun z => ⟨[(0, .sl (rowsS s)), (3, .ptr (.loc 0 0) 0), (64, .sl (rowsT t.kids)), (65, .int .i64 (rowsT t.kids).length), (66, .int .i64 z)], [(.loc 0 0, .box (cellsT t))]⟩) t.kids.length
            (fun i => some (.bool (formL s t.f (prevAt t.kids i) (t.kids.drop i)), [])) rfl rfl ?_
          intro i hi ih
          refine round_of ?_
          (conv => lhs; whnf)
          ((repeat (first | refine br_t ?_ | refine br_f ?_ | refine br_not ?_)); first | refine br_lt (fun h5 => ?_) (fun h5 => ?_) | refine br_le (fun h5 => ?_) (fun h5 => ?_) | refine br_eq (fun h5 => ?_) (fun h5 => ?_) | refine br_b (fun h5 => ?_) (fun h5 => ?_)) <;> (conv => lhs; whnf) <;> rw [rowsT_length] at h5
          · have hlt : i < t.kids.length := by omega
            have hm : t.kids[i] ∈ t.kids := List.getElem_mem hlt
            have hsk : Small (nodes t.kids[i]) := by have := nodes_kid hm; omega
            rw [formL_drop _ _ _ hlt]
            (refine vuK_of (v_idx (rowsT_get hlt) rfl rfl rfl rfl) ?_; (conv => lhs; whnf))
            (refine vuK_of (v_call rfl rfl (ihk t.kids[i] (by rw [← hk]; exact hm) hsk) rfl rfl) ?_; (conv => lhs; whnf))
            ((repeat (first | refine br_t ?_ | refine br_f ?_ | refine br_not ?_)); first | refine br_lt (fun h6 => ?_) (fun h6 => ?_) | refine br_le (fun h6 => ?_) (fun h6 => ?_) | refine br_eq (fun h6 => ?_) (fun h6 => ?_) | refine br_b (fun h6 => ?_) (fun h6 => ?_)) <;> (conv => lhs; whnf)
            · rw [h6, hac]
              (refine vuK_of (v_index_sl rfl rfl rfl hy h2.1 rfl) ?_; (conv => lhs; whnf))
              first
                | (refine (ih _ _ rfl (wrap_succ hlt (by omega)) hlt).trans ?_; rfl)
                | skip
              all_goals
                ((repeat (first | refine br_t ?_ | refine br_f ?_ | refine br_not ?_)); first | refine br_lt (fun h7 => ?_) (fun h7 => ?_) | refine br_le (fun h7 => ?_) (fun h7 => ?_) | refine br_eq (fun h7 => ?_) (fun h7 => ?_) | refine br_b (fun h7 => ?_) (fun h7 => ?_)) <;> (conv => lhs; whnf)
                · rw [decide_eq_true h7]; rfl
                · rw [decide_eq_false h7]
                  ((repeat (first | refine br_t ?_ | refine br_f ?_ | refine br_not ?_)); first | refine br_lt (fun h8 => ?_) (fun h8 => ?_) | refine br_le (fun h8 => ?_) (fun h8 => ?_) | refine br_eq (fun h8 => ?_) (fun h8 => ?_) | refine br_b (fun h8 => ?_) (fun h8 => ?_)) <;> (conv => lhs; whnf)
                  · obtain ⟨j, rfl⟩ : ∃ j, i = j + 1 := ⟨i - 1, by omega⟩
                    have hj : (IntKind.wrap .i64 (((j + 1 : Nat) : Int) - 1)).toNat = j := by rw [wrap_ok (by omega) (by omega)]; omega
                    have hj0 : 0 ≤ IntKind.wrap .i64 (((j + 1 : Nat) : Int) - 1) := by rw [wrap_ok (by omega) (by omega)]; omega
                    have hjl : j < t.kids.length := by omega
                    have hpv : (rowsT t.kids)[(IntKind.wrap .i64 (((j + 1 : Nat) : Int) - 1)).toNat]? = some (cellsT t.kids[j]) := by rw [hj]; exact rowsT_get hjl
                    (refine vuK_of (v_index_sl rfl rfl rfl hpv hj0 rfl) ?_; (conv => lhs; whnf))
                    (refine vuK_of (v_call rfl rfl (ev_Before t.kids[j + 1] t.kids[j] hsk) rfl rfl) ?_; (conv => lhs; whnf))
                    rw [show prevAt t.kids (j + 1) = some t.kids[j] from List.getElem?_eq_getElem hjl, prevOk]
                    ((repeat (first | refine br_t ?_ | refine br_f ?_ | refine br_not ?_)); first | refine br_lt (fun h9 => ?_) (fun h9 => ?_) | refine br_le (fun h9 => ?_) (fun h9 => ?_) | refine br_eq (fun h9 => ?_) (fun h9 => ?_) | refine br_b (fun h9 => ?_) (fun h9 => ?_)) <;> (conv => lhs; whnf)
                    · rw [h9]; rfl
                    · refine (ih _ _ rfl (wrap_succ hlt (by omega)) hlt).trans ?_
                      rw [h9]; rfl
                  · obtain rfl : i = 0 := by omega
                    exact ih _ _ rfl (wrap_succ hlt (by omega)) hlt
            · rw [h6]; rfl
          · rw [formL_end _ _ _ (by omega)]; rfl
      · refine res_bool (z := false) ?_
        rw [ownOk, h2]; rfl
end Go.Proofs.Tryz
