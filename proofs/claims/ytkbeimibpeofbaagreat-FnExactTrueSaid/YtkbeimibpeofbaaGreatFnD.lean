/- Terms, literals and clauses as they must be. -/
import Derived.Test.YtkbeimibpeofbaaGreatFnC
set_option linter.unusedSimpArgs false
set_option linter.unusedVariables false
namespace Go.Proofs.Tryz
open Go Go.Sim Go.Braid

set_option maxHeartbeats 2000000 in
theorem ev_l4Right (s : List Sym) (hs : Small s.length) : ∀ (t : Tm), Small (nodes t) → EV prog cfg 188 [.sl (rowsS s), .agg (cellsT t)] [] = some (.bool (formB s t), []) := by
  intro t
  induction t using Tm.ind with
  | h f v ks ihk =>
    intro ha
    generalize hA : Tm.mk f v ks = t at ha ⊢
    have hk : t.kids = ks := by rw [← hA]; rfl
    have hkl := nodes_len t
    rw [formB_eq]
    (refine EV_k rfl func188 (by rw [f188]) (by rw [f188]; rfl) (by rw [f188]; rfl) ?_; rw [ntmps188]; (conv => lhs; whnf))
    ((repeat (first | refine br_t ?_ | refine br_f ?_ | refine br_not ?_)); first | refine br_lt (fun h1 => ?_) (fun h1 => ?_) | refine br_le (fun h1 => ?_) (fun h1 => ?_) | refine br_eq (fun h1 => ?_) (fun h1 => ?_) | refine br_b (fun h1 => ?_) (fun h1 => ?_)) <;> (conv => lhs; whnf)
    · rw [if_pos h1]
      (refine vuK_of (v_call rfl rfl (ev_l1In _ _ _) rfl rfl) ?_; (conv => lhs; whnf))
      ((repeat (first | refine br_t ?_ | refine br_f ?_ | refine br_not ?_)); first | refine br_lt (fun h2 => ?_) (fun h2 => ?_) | refine br_le (fun h2 => ?_) (fun h2 => ?_) | refine br_eq (fun h2 => ?_) (fun h2 => ?_) | refine br_b (fun h2 => ?_) (fun h2 => ?_)) <;> (conv => lhs; whnf)
      · refine res_bool ?_
        rw [h2, eqI_eq, rowsT_length, Bool.true_and, decide_eq_decide]
        omega
      · rw [h2]; rfl
    · rw [if_neg h1]
      (refine vuK_of (v_call rfl rfl (ev_l1In _ _ _) rfl rfl) ?_; (conv => lhs; whnf))
      have hr : decide (0 ≤ t.f ∧ t.f ≤ IntKind.wrap .i64 (((rowsS s).length : Int) - 1)) = decide (0 ≤ t.f ∧ t.f < s.length) := by rw [rowsS_length, wrap_ok (by omega) (by omega), decide_eq_decide]; omega
      ((repeat (first | refine br_t ?_ | refine br_f ?_ | refine br_not ?_)); first | refine br_lt (fun h2 => ?_) (fun h2 => ?_) | refine br_le (fun h2 => ?_) (fun h2 => ?_) | refine br_eq (fun h2 => ?_) (fun h2 => ?_) | refine br_b (fun h2 => ?_) (fun h2 => ?_)) <;> rw [hr] at h2 <;> (conv => lhs; whnf)
      · have h20 := h2
        have h2 : 0 ≤ t.f ∧ t.f < s.length := by simpa using h2
        obtain ⟨y, hym, hy0, hy, hac, har⟩ := sig_at h2.1 h2.2
        obtain ⟨nm, ar, ac⟩ := y
        cases ac
        all_goals (repeat (any_goals (first | (refine vuK_of (v_index_sl rfl rfl rfl hy h2.1 rfl) ?_; (conv => lhs; whnf)) | (((repeat (first | refine br_t ?_ | refine br_f ?_ | refine br_not ?_)); first | refine br_lt (fun hh => ?_) (fun hh => ?_) | refine br_le (fun hh => ?_) (fun hh => ?_) | refine br_eq (fun hh => ?_) (fun hh => ?_) | refine br_b (fun hh => ?_) (fun hh => ?_)) <;> (conv => lhs; whnf)))))
        all_goals first
          | (refine (res_bool (z := false) (z' := ownOk s t.f t.v t.kids.length && formL s t.f none t.kids) ?_); rw [show ownOk s t.f t.v t.kids.length = false by (simp only [ownOk, hac, har, h20]; simp_all [rowsT_length] <;> omega)]; rfl)
          | skip
        all_goals rw [show ownOk s t.f t.v t.kids.length = true by (simp only [ownOk, hac, har, h20]; simp_all [rowsT_length] <;> omega), Bool.true_and]
        all_goals
          refine loop_nat (fun z => ⟨[(0, .sl (rowsS s)), (3, .ptr (.loc 0 0) 0), (5, .int .i64 z)], [(.loc 0 0, .box (cellsT t))]⟩) t.kids.length
            (fun i => some (.bool (formL s t.f (prevAt t.kids i) (t.kids.drop i)), [])) rfl rfl ?_
          intro i hi ih
          refine round_of ?_
          (conv => lhs; whnf)
          ((repeat (first | refine br_t ?_ | refine br_f ?_ | refine br_not ?_)); first | refine br_lt (fun h5 => ?_) (fun h5 => ?_) | refine br_le (fun h5 => ?_) (fun h5 => ?_) | refine br_eq (fun h5 => ?_) (fun h5 => ?_) | refine br_b (fun h5 => ?_) (fun h5 => ?_)) <;> (conv => lhs; whnf) <;> rw [rowsT_length] at h5
          · have hlt : i < t.kids.length := by omega
            have hm : t.kids[i] ∈ t.kids := List.getElem_mem hlt
            have hsk : Small (nodes t.kids[i]) := by have := nodes_kid hm; omega
            have ihk' := ihk t.kids[i] (by rw [← hk]; exact hm) hsk
            have hpv : ∀ j, i = j + 1 → ∃ (hjl : j < t.kids.length), (rowsT t.kids)[(IntKind.wrap .i64 ((i : Int) - 1)).toNat]? = some (cellsT t.kids[j]) ∧ 0 ≤ IntKind.wrap .i64 ((i : Int) - 1) := by
              rintro j rfl
              have hjl : j < t.kids.length := by omega
              refine ⟨hjl, ?_, ?_⟩
              · rw [show (IntKind.wrap .i64 (((j + 1 : Nat) : Int) - 1)).toNat = j by rw [wrap_ok (by omega) (by omega)]; omega]
                exact rowsT_get hjl
              · rw [wrap_ok (by omega) (by omega)]; omega
            rw [formL_drop _ _ _ hlt, hac]
            (refine vuK_of (v_index_sl rfl rfl rfl hy h2.1 rfl) ?_; (conv => lhs; whnf))
            first
              | ((refine vuK_of (v_idx (rowsT_get hlt) rfl rfl rfl rfl) ?_; (conv => lhs; whnf))
                 (refine vuK_of (v_call rfl rfl (ihk') rfl rfl) ?_; (conv => lhs; whnf))
                 ((repeat (first | refine br_t ?_ | refine br_f ?_ | refine br_not ?_)); first | refine br_lt (fun h6 => ?_) (fun h6 => ?_) | refine br_le (fun h6 => ?_) (fun h6 => ?_) | refine br_eq (fun h6 => ?_) (fun h6 => ?_) | refine br_b (fun h6 => ?_) (fun h6 => ?_)) <;> (conv => lhs; whnf)
                 · rw [h6]
                   exact (ih _ _ rfl (wrap_succ hlt (by omega)) hlt).trans rfl
                 · rw [h6]; rfl)
              | ((refine vuK_of (v_idx (rowsT_get hlt) rfl rfl rfl rfl) ?_; (conv => lhs; whnf))
                 ((repeat (first | refine br_t ?_ | refine br_f ?_ | refine br_not ?_)); first | refine br_lt (fun h7 => ?_) (fun h7 => ?_) | refine br_le (fun h7 => ?_) (fun h7 => ?_) | refine br_eq (fun h7 => ?_) (fun h7 => ?_) | refine br_b (fun h7 => ?_) (fun h7 => ?_)) <;> (conv => lhs; whnf)
                 · rw [decide_eq_true h7]
                   refine res_bool (z := false) ?_
                   simp
                 · rw [decide_eq_false h7]
                   ((repeat (first | refine br_t ?_ | refine br_f ?_ | refine br_not ?_)); first | refine br_lt (fun h8 => ?_) (fun h8 => ?_) | refine br_le (fun h8 => ?_) (fun h8 => ?_) | refine br_eq (fun h8 => ?_) (fun h8 => ?_) | refine br_b (fun h8 => ?_) (fun h8 => ?_)) <;> (conv => lhs; whnf)
                   · obtain ⟨j, rfl⟩ : ∃ j, i = j + 1 := ⟨i - 1, by omega⟩
                     obtain ⟨hjl, hp1, hp2⟩ := hpv j rfl
                     rw [show prevAt t.kids (j + 1) = some t.kids[j] from List.getElem?_eq_getElem hjl, prevOk]
                     (refine vuK_of (v_idx (rowsT_get hlt) rfl rfl rfl rfl) ?_; (conv => lhs; whnf))
                     (refine vuK_of (v_index_sl rfl rfl rfl hp1 hp2 rfl) ?_; (conv => lhs; whnf))
                     (refine vuK_of (v_call rfl rfl (ev_spec_Before t.kids[j + 1] t.kids[j] hsk) rfl rfl) ?_; (conv => lhs; whnf))
                     ((repeat (first | refine br_t ?_ | refine br_f ?_ | refine br_not ?_)); first | refine br_lt (fun h9 => ?_) (fun h9 => ?_) | refine br_le (fun h9 => ?_) (fun h9 => ?_) | refine br_eq (fun h9 => ?_) (fun h9 => ?_) | refine br_b (fun h9 => ?_) (fun h9 => ?_)) <;> (conv => lhs; whnf)
                     · rw [h9]
                       refine res_bool (z := false) ?_
                       simp
                     · rw [h9]
                       (refine vuK_of (v_idx (rowsT_get hlt) rfl rfl rfl rfl) ?_; (conv => lhs; whnf))
                       (refine vuK_of (v_call rfl rfl (ihk') rfl rfl) ?_; (conv => lhs; whnf))
                       ((repeat (first | refine br_t ?_ | refine br_f ?_ | refine br_not ?_)); first | refine br_lt (fun h6 => ?_) (fun h6 => ?_) | refine br_le (fun h6 => ?_) (fun h6 => ?_) | refine br_eq (fun h6 => ?_) (fun h6 => ?_) | refine br_b (fun h6 => ?_) (fun h6 => ?_)) <;> (conv => lhs; whnf)
                       · rw [h6]
                         exact (ih _ _ rfl (wrap_succ hlt (by omega)) hlt).trans rfl
                       · rw [h6]; rfl
                   · obtain rfl : i = 0 := by omega
                     (refine vuK_of (v_idx (rowsT_get hlt) rfl rfl rfl rfl) ?_; (conv => lhs; whnf))
                     (refine vuK_of (v_call rfl rfl (ihk') rfl rfl) ?_; (conv => lhs; whnf))
                     ((repeat (first | refine br_t ?_ | refine br_f ?_ | refine br_not ?_)); first | refine br_lt (fun h6 => ?_) (fun h6 => ?_) | refine br_le (fun h6 => ?_) (fun h6 => ?_) | refine br_eq (fun h6 => ?_) (fun h6 => ?_) | refine br_b (fun h6 => ?_) (fun h6 => ?_)) <;> (conv => lhs; whnf)
                     · rw [h6]
                       exact (ih _ _ rfl (wrap_succ hlt (by omega)) hlt).trans rfl
                     · rw [h6]; rfl)
          · rw [formL_end _ _ _ (by omega)]; rfl
      · refine res_bool (z := false) ?_
        rw [ownOk, h2]; rfl

def termB (s : List Sym) (t : Tm) : Bool := sigB s && decide (nodes t ≤ 60) && formB s t
theorem ev_TermOk (s : List Sym) (hs : SigSmall s) (t : Tm) (ht : Small (nodes t)) : EV prog cfg 119 [.sl (rowsS s), .agg (cellsT t)] [] = some (.bool (termB s t), []) := by
  (refine EV_k rfl func119 (by rw [f119]) (by rw [f119]; rfl) (by rw [f119]; rfl) ?_; rw [ntmps119]; (conv => lhs; whnf))
  (repeat (any_goals (first | (refine vuK_of (v_call rfl rfl (ev_SigOk s hs) rfl rfl) ?_; (conv => lhs; whnf)) | (refine vuK_of (v_call rfl rfl (ev_Parts t ht) rfl rfl) ?_; (conv => lhs; whnf)) | (refine vuK_of (v_call rfl rfl (ev_formOk s hs.1 t ht) rfl rfl) ?_; (conv => lhs; whnf)) | (((repeat (first | refine br_t ?_ | refine br_f ?_ | refine br_not ?_)); first | refine br_lt (fun hh => ?_) (fun hh => ?_) | refine br_le (fun hh => ?_) (fun hh => ?_) | refine br_eq (fun hh => ?_) (fun hh => ?_) | refine br_b (fun hh => ?_) (fun hh => ?_)) <;> (conv => lhs; whnf)))))
  all_goals (refine res_bool ?_; simp only [termB]; simp_all [leI_eq]; try omega)
theorem ev_spec_TermOk (s : List Sym) (hs : SigSmall s) (t : Tm) (ht : Small (nodes t)) : EV prog cfg 129 [.sl (rowsS s), .agg (cellsT t)] [] = some (.bool (termB s t), []) := by
  (refine EV_k rfl func129 (by rw [f129]) (by rw [f129]; rfl) (by rw [f129]; rfl) ?_; rw [ntmps129]; (conv => lhs; whnf))
  (repeat (any_goals (first | (refine vuK_of (v_call rfl rfl (ev_spec_SigOk s hs) rfl rfl) ?_; (conv => lhs; whnf)) | (refine vuK_of (v_call rfl rfl (ev_spec_Parts t ht) rfl rfl) ?_; (conv => lhs; whnf)) | (refine vuK_of (v_call rfl rfl (ev_l4Right s hs.1 t ht) rfl rfl) ?_; (conv => lhs; whnf)) | (((repeat (first | refine br_t ?_ | refine br_f ?_ | refine br_not ?_)); first | refine br_lt (fun hh => ?_) (fun hh => ?_) | refine br_le (fun hh => ?_) (fun hh => ?_) | refine br_eq (fun hh => ?_) (fun hh => ?_) | refine br_b (fun hh => ?_) (fun hh => ?_)) <;> (conv => lhs; whnf)))))
  all_goals (refine res_bool ?_; simp only [termB]; simp_all [leI_eq]; try omega)

def LitSmall (l : Lt) : Prop := Small (nodes l.l) ∧ Small (nodes l.r)
def litB (s : List Sym) (l : Lt) : Bool := termB s l.l && termB s l.r && !decide (cmpT l.l l.r < 0)
theorem ev_LitOk (s : List Sym) (hs : SigSmall s) (l : Lt) (ht : LitSmall l) : EV prog cfg 84 [.sl (rowsS s), .agg (cellsL l)] [] = some (.bool (litB s l), []) := by
  (refine EV_k rfl func84 (by rw [f84]) (by rw [f84]; rfl) (by rw [f84]; rfl) ?_; rw [ntmps84]; (conv => lhs; whnf))
  (repeat (any_goals (first | (refine vuK_of (v_call rfl rfl (ev_TermOk s hs l.l ht.1) rfl rfl) ?_; (conv => lhs; whnf)) | (refine vuK_of (v_call rfl rfl (ev_TermOk s hs l.r ht.2) rfl rfl) ?_; (conv => lhs; whnf)) | (refine vuK_of (v_call rfl rfl (ev_Before l.l l.r ht.1) rfl rfl) ?_; (conv => lhs; whnf)) | (((repeat (first | refine br_t ?_ | refine br_f ?_ | refine br_not ?_)); first | refine br_lt (fun hh => ?_) (fun hh => ?_) | refine br_le (fun hh => ?_) (fun hh => ?_) | refine br_eq (fun hh => ?_) (fun hh => ?_) | refine br_b (fun hh => ?_) (fun hh => ?_)) <;> (conv => lhs; whnf)))))
  all_goals (refine res_bool ?_; simp only [litB]; simp_all)
theorem ev_spec_LitOk (s : List Sym) (hs : SigSmall s) (l : Lt) (ht : LitSmall l) : EV prog cfg 89 [.sl (rowsS s), .agg (cellsL l)] [] = some (.bool (litB s l), []) := by
  (refine EV_k rfl func89 (by rw [f89]) (by rw [f89]; rfl) (by rw [f89]; rfl) ?_; rw [ntmps89]; (conv => lhs; whnf))
  (repeat (any_goals (first | (refine vuK_of (v_call rfl rfl (ev_spec_TermOk s hs l.l ht.1) rfl rfl) ?_; (conv => lhs; whnf)) | (refine vuK_of (v_call rfl rfl (ev_spec_TermOk s hs l.r ht.2) rfl rfl) ?_; (conv => lhs; whnf)) | (refine vuK_of (v_call rfl rfl (ev_spec_Before l.l l.r ht.1) rfl rfl) ?_; (conv => lhs; whnf)) | (((repeat (first | refine br_t ?_ | refine br_f ?_ | refine br_not ?_)); first | refine br_lt (fun hh => ?_) (fun hh => ?_) | refine br_le (fun hh => ?_) (fun hh => ?_) | refine br_eq (fun hh => ?_) (fun hh => ?_) | refine br_b (fun hh => ?_) (fun hh => ?_)) <;> (conv => lhs; whnf)))))
  all_goals (refine res_bool ?_; simp only [litB]; simp_all)

def cmpLit (a b : Lt) : Int := if a.pos = false ∧ b.pos = true then -1 else if a.pos = true ∧ b.pos = false then 1 else if cmpT a.l b.l ≠ 0 then cmpT a.l b.l else cmpT a.r b.r
theorem ev_compareLits (a b : Lt) (ha : LitSmall a) : EV prog cfg 153 [.agg (cellsL a), .agg (cellsL b)] [] = some (.int .i64 (cmpLit a b), []) := by
  (refine EV_k rfl func153 (by rw [f153]) (by rw [f153]; rfl) (by rw [f153]; rfl) ?_; rw [ntmps153]; (conv => lhs; whnf))
  (repeat (any_goals (first | (refine vuK_of (v_call rfl rfl (ev_compare a.l b.l ha.1) rfl rfl) ?_; (conv => lhs; whnf)) | (refine vuK_of (v_call rfl rfl (ev_compare a.r b.r ha.2) rfl rfl) ?_; (conv => lhs; whnf)) | (((repeat (first | refine br_t ?_ | refine br_f ?_ | refine br_not ?_)); first | refine br_lt (fun hh => ?_) (fun hh => ?_) | refine br_le (fun hh => ?_) (fun hh => ?_) | refine br_eq (fun hh => ?_) (fun hh => ?_) | refine br_b (fun hh => ?_) (fun hh => ?_)) <;> (conv => lhs; whnf)))))
  all_goals (refine res_int ?_; simp_all [cmpLit])
theorem ev_LitBefore (a b : Lt) (ha : LitSmall a) : EV prog cfg 85 [.agg (cellsL a), .agg (cellsL b)] [] = some (.bool (decide (cmpLit a b < 0)), []) := by
  (refine EV_k rfl func85 (by rw [f85]) (by rw [f85]; rfl) (by rw [f85]; rfl) ?_; rw [ntmps85]; (conv => lhs; whnf))
  (refine vuK_of (v_call rfl rfl (ev_compareLits a b ha) rfl rfl) ?_; (conv => lhs; whnf))
  exact res_bool (ltI_eq _ _)
theorem ev_spec_LitBefore (a b : Lt) (ha : LitSmall a) : EV prog cfg 90 [.agg (cellsL a), .agg (cellsL b)] [] = some (.bool (decide (cmpLit a b < 0)), []) := by
  (refine EV_k rfl func90 (by rw [f90]) (by rw [f90]; rfl) (by rw [f90]; rfl) ?_; rw [ntmps90]; (conv => lhs; whnf))
  (repeat (any_goals (first | (refine vuK_of (v_call rfl rfl (ev_spec_TermSame a.l b.l ha.1) rfl rfl) ?_; (conv => lhs; whnf)) | (refine vuK_of (v_call rfl rfl (ev_spec_Before a.l b.l ha.1) rfl rfl) ?_; (conv => lhs; whnf)) | (refine vuK_of (v_call rfl rfl (ev_spec_Before a.r b.r ha.2) rfl rfl) ?_; (conv => lhs; whnf)) | (((repeat (first | refine br_t ?_ | refine br_f ?_ | refine br_not ?_)); first | refine br_lt (fun hh => ?_) (fun hh => ?_) | refine br_le (fun hh => ?_) (fun hh => ?_) | refine br_eq (fun hh => ?_) (fun hh => ?_) | refine br_b (fun hh => ?_) (fun hh => ?_)) <;> (conv => lhs; whnf)))))
  all_goals
    refine res_bool ?_
    rcases a with ⟨ap, al, ar⟩
    rcases b with ⟨bp, bl, br⟩
    cases ap <;> cases bp <;> simp_all [cmpLit, sameT_cmp]

def litPrev (l : Lt) : Option Lt → Bool
  | none => true
  | some q => decide (cmpLit q l < 0)
def clL (s : List Sym) : Option Lt → List Lt → Bool
  | _, [] => true
  | p, l :: c => litB s l && litPrev l p && clL s (some l) c
def clauseB (s : List Sym) (c : List Lt) : Bool := clL s none c && decide (c.length ≤ 8)
def litAt (l : List Lt) : Nat → Option Lt
  | 0 => none
  | i + 1 => l[i]?
theorem clL_drop (s : List Sym) (l : List Lt) {i : Nat} (h : i < l.length) : clL s (litAt l i) (l.drop i) = (litB s l[i] && litPrev l[i] (litAt l i) && clL s (litAt l (i + 1)) (l.drop (i + 1))) := by
  rw [List.drop_eq_getElem_cons h, clL, litAt, List.getElem?_eq_getElem h]
theorem clL_end (s : List Sym) (l : List Lt) {i : Nat} (h : l.length ≤ i) : clL s (litAt l i) (l.drop i) = true := by
  rw [List.drop_eq_nil_of_le h, clL]
def ClSmall (c : List Lt) : Prop := Small (nodesC c)
theorem ClSmall.lit {c : List Lt} (h : ClSmall c) {l : Lt} (hl : l ∈ c) : LitSmall l := by
  have h : Small (nodesC c) := h
  have := nodesC_mem hl
  exact ⟨by omega, by omega⟩
theorem ClSmall.len {c : List Lt} (h : ClSmall c) : Small c.length := by
  have h : Small (nodesC c) := h
  have := nodesC_len c
  omega

theorem ev_ClauseOk (s : List Sym) (hs : SigSmall s) (c : List Lt) (hc : ClSmall c) : EV prog cfg 17 [.sl (rowsS s), .agg [.sl (rowsL c)]] [] = some (.bool (clauseB s c), []) := by
  have hcl := hc.len
  (refine EV_k rfl func17 (by rw [f17]) (by rw [f17]; rfl) (by rw [f17]; rfl) ?_; rw [ntmps17]; (conv => lhs; whnf))
  refine loop_nat (fun z => ⟨[(0, .sl (rowsS s)), (3, .ptr (.loc 0 0) 0), (8, .sl (rowsL c)), (9, .int .i64 (rowsL c).length), (10, .int .i64 z)], [(.loc 0 0, .box [.sl (rowsL c)])]⟩) c.length
    (fun i => some (.bool (clL s (litAt c i) (c.drop i) && decide (c.length ≤ 8)), [])) rfl rfl ?_
  intro i hi ih
  refine round_of ?_
  (conv => lhs; whnf)
  ((repeat (first | refine br_t ?_ | refine br_f ?_ | refine br_not ?_)); first | refine br_lt (fun h5 => ?_) (fun h5 => ?_) | refine br_le (fun h5 => ?_) (fun h5 => ?_) | refine br_eq (fun h5 => ?_) (fun h5 => ?_) | refine br_b (fun h5 => ?_) (fun h5 => ?_)) <;> (conv => lhs; whnf) <;> rw [rowsL_length] at h5
  · have hlt : i < c.length := by omega
    have hm : c[i] ∈ c := List.getElem_mem hlt
    rw [clL_drop _ _ hlt]
    (refine vuK_of (v_idx (rowsL_get hlt) rfl rfl rfl rfl) ?_; (conv => lhs; whnf))
    (refine vuK_of (v_call rfl rfl (ev_LitOk s hs c[i] (hc.lit hm)) rfl rfl) ?_; (conv => lhs; whnf))
    ((repeat (first | refine br_t ?_ | refine br_f ?_ | refine br_not ?_)); first | refine br_lt (fun h6 => ?_) (fun h6 => ?_) | refine br_le (fun h6 => ?_) (fun h6 => ?_) | refine br_eq (fun h6 => ?_) (fun h6 => ?_) | refine br_b (fun h6 => ?_) (fun h6 => ?_)) <;> (conv => lhs; whnf)
    · rw [h6]
      ((repeat (first | refine br_t ?_ | refine br_f ?_ | refine br_not ?_)); first | refine br_lt (fun h8 => ?_) (fun h8 => ?_) | refine br_le (fun h8 => ?_) (fun h8 => ?_) | refine br_eq (fun h8 => ?_) (fun h8 => ?_) | refine br_b (fun h8 => ?_) (fun h8 => ?_)) <;> (conv => lhs; whnf)
      · obtain ⟨j, rfl⟩ : ∃ j, i = j + 1 := ⟨i - 1, by omega⟩
        have hj : (IntKind.wrap .i64 (((j + 1 : Nat) : Int) - 1)).toNat = j := by rw [wrap_ok (by omega) (by omega)]; omega
        have hj0 : 0 ≤ IntKind.wrap .i64 (((j + 1 : Nat) : Int) - 1) := by rw [wrap_ok (by omega) (by omega)]; omega
        have hjl : j < c.length := by omega
        have hpv : (rowsL c)[(IntKind.wrap .i64 (((j + 1 : Nat) : Int) - 1)).toNat]? = some (cellsL c[j]) := by rw [hj]; exact rowsL_get hjl
        (refine vuK_of (v_index_sl rfl rfl rfl hpv hj0 rfl) ?_; (conv => lhs; whnf))
        (refine vuK_of (v_call rfl rfl (ev_LitBefore c[j] c[j + 1] (hc.lit (List.getElem_mem hjl))) rfl rfl) ?_; (conv => lhs; whnf))
        rw [show litAt c (j + 1) = some c[j] from List.getElem?_eq_getElem hjl, litPrev]
        ((repeat (first | refine br_t ?_ | refine br_f ?_ | refine br_not ?_)); first | refine br_lt (fun h9 => ?_) (fun h9 => ?_) | refine br_le (fun h9 => ?_) (fun h9 => ?_) | refine br_eq (fun h9 => ?_) (fun h9 => ?_) | refine br_b (fun h9 => ?_) (fun h9 => ?_)) <;> (conv => lhs; whnf)
        · refine (ih _ _ rfl (wrap_succ hlt (by omega)) hlt).trans ?_
          rw [h9]; rfl
        · rw [h9]; rfl
      · obtain rfl : i = 0 := by omega
        exact ih _ _ rfl (wrap_succ hlt (by omega)) hlt
    · rw [h6]; rfl
  · rw [clL_end _ _ (by omega), Bool.true_and]
    refine res_bool ?_
    rw [leI_eq, rowsL_length, decide_eq_decide]
    omega

theorem ev_spec_ClauseOk (s : List Sym) (hs : SigSmall s) (c : List Lt) (hc : ClSmall c) : EV prog cfg 19 [.sl (rowsS s), .agg [.sl (rowsL c)]] [] = some (.bool (clauseB s c), []) := by
  have hcl := hc.len
  (refine EV_k rfl func19 (by rw [f19]) (by rw [f19]; rfl) (by rw [f19]; rfl) ?_; rw [ntmps19]; (conv => lhs; whnf))
  refine loop_nat (fun z => ⟨[(0, .sl (rowsS s)), (3, .ptr (.loc 0 0) 0), (5, .int .i64 z)], [(.loc 0 0, .box [.sl (rowsL c)])]⟩) c.length
    (fun i => some (.bool (clL s (litAt c i) (c.drop i) && decide (c.length ≤ 8)), [])) rfl rfl ?_
  intro i hi ih
  refine round_of ?_
  (conv => lhs; whnf)
  ((repeat (first | refine br_t ?_ | refine br_f ?_ | refine br_not ?_)); first | refine br_lt (fun h5 => ?_) (fun h5 => ?_) | refine br_le (fun h5 => ?_) (fun h5 => ?_) | refine br_eq (fun h5 => ?_) (fun h5 => ?_) | refine br_b (fun h5 => ?_) (fun h5 => ?_)) <;> (conv => lhs; whnf) <;> rw [rowsL_length] at h5
  · have hlt : i < c.length := by omega
    have hm : c[i] ∈ c := List.getElem_mem hlt
    rw [clL_drop _ _ hlt]
    (refine vuK_of (v_idx (rowsL_get hlt) rfl rfl rfl rfl) ?_; (conv => lhs; whnf))
    (refine vuK_of (v_call rfl rfl (ev_spec_LitOk s hs c[i] (hc.lit hm)) rfl rfl) ?_; (conv => lhs; whnf))
    ((repeat (first | refine br_t ?_ | refine br_f ?_ | refine br_not ?_)); first | refine br_lt (fun h6 => ?_) (fun h6 => ?_) | refine br_le (fun h6 => ?_) (fun h6 => ?_) | refine br_eq (fun h6 => ?_) (fun h6 => ?_) | refine br_b (fun h6 => ?_) (fun h6 => ?_)) <;> (conv => lhs; whnf)
    · rw [h6]
      ((repeat (first | refine br_t ?_ | refine br_f ?_ | refine br_not ?_)); first | refine br_lt (fun h8 => ?_) (fun h8 => ?_) | refine br_le (fun h8 => ?_) (fun h8 => ?_) | refine br_eq (fun h8 => ?_) (fun h8 => ?_) | refine br_b (fun h8 => ?_) (fun h8 => ?_)) <;> (conv => lhs; whnf)
      · obtain ⟨j, rfl⟩ : ∃ j, i = j + 1 := ⟨i - 1, by omega⟩
        have hj : (IntKind.wrap .i64 (((j + 1 : Nat) : Int) - 1)).toNat = j := by rw [wrap_ok (by omega) (by omega)]; omega
        have hj0 : 0 ≤ IntKind.wrap .i64 (((j + 1 : Nat) : Int) - 1) := by rw [wrap_ok (by omega) (by omega)]; omega
        have hjl : j < c.length := by omega
        have hpv : (rowsL c)[(IntKind.wrap .i64 (((j + 1 : Nat) : Int) - 1)).toNat]? = some (cellsL c[j]) := by rw [hj]; exact rowsL_get hjl
        (refine vuK_of (v_index_sl rfl rfl rfl hpv hj0 rfl) ?_; (conv => lhs; whnf))
        (refine vuK_of (v_idx (rowsL_get hlt) rfl rfl rfl rfl) ?_; (conv => lhs; whnf))
        (refine vuK_of (v_call rfl rfl (ev_spec_LitBefore c[j] c[j + 1] (hc.lit (List.getElem_mem hjl))) rfl rfl) ?_; (conv => lhs; whnf))
        rw [show litAt c (j + 1) = some c[j] from List.getElem?_eq_getElem hjl, litPrev]
        ((repeat (first | refine br_t ?_ | refine br_f ?_ | refine br_not ?_)); first | refine br_lt (fun h9 => ?_) (fun h9 => ?_) | refine br_le (fun h9 => ?_) (fun h9 => ?_) | refine br_eq (fun h9 => ?_) (fun h9 => ?_) | refine br_b (fun h9 => ?_) (fun h9 => ?_)) <;> (conv => lhs; whnf)
        · refine (ih _ _ rfl (wrap_succ hlt (by omega)) hlt).trans ?_
          rw [h9]; rfl
        · rw [h9]; rfl
      · obtain rfl : i = 0 := by omega
        exact ih _ _ rfl (wrap_succ hlt (by omega)) hlt
    · rw [h6]; rfl
  · rw [clL_end _ _ (by omega), Bool.true_and]
    refine res_bool ?_
    rw [leI_eq, rowsL_length, decide_eq_decide]
    omega
end Go.Proofs.Tryz
