/- Terms. -/
import Derived.Test.YtkbeimibpeofbaaGreatFnA
set_option linter.unusedSimpArgs false
set_option linter.unusedVariables false
namespace Go.Proofs.Tryz
open Go Go.Sim Go.Braid

mutual
def cmpT : Tm → Tm → Int
  | .mk f v ks, b => if f < b.f then -1 else if b.f < f then 1 else if v < b.v then -1 else if b.v < v then 1 else if ks.length < b.kids.length then -1 else if b.kids.length < ks.length then 1 else cmpL ks b.kids
def cmpL : List Tm → List Tm → Int
  | k :: ks, m :: ms => if cmpT k m ≠ 0 then cmpT k m else cmpL ks ms
  | _, _ => 0
end
theorem cmpT_eq (a b : Tm) : cmpT a b = if a.f < b.f then -1 else if b.f < a.f then 1 else if a.v < b.v then -1 else if b.v < a.v then 1 else if a.kids.length < b.kids.length then -1
    else if b.kids.length < a.kids.length then 1 else cmpL a.kids b.kids := by cases a; rw [cmpT]; rfl

def cmpP : List (Int × Int) → Int → Int
  | [], c => c
  | (x, y) :: r, c => if x < y then -1 else if y < x then 1 else cmpP r c
def pairs (a b : Tm) : List (Int × Int) := [(a.f, b.f), (a.v, b.v), ((a.kids.length : Int), (b.kids.length : Int))]
def rowsP (l : List (Int × Int)) : List (List AV) := l.map fun p => [.int .i64 p.1, .int .i64 p.2]
theorem cmpT_pairs (a b : Tm) : cmpP (pairs a b) (cmpL a.kids b.kids) = cmpT a b := by
  rw [cmpT_eq]
  simp only [pairs, cmpP, Int.ofNat_lt]
theorem rowsP_eq (a b : Tm) : rowsP (pairs a b) = [[.int .i64 a.f, .int .i64 b.f], [.int .i64 a.v, .int .i64 b.v], [.int .i64 (rowsT a.kids).length, .int .i64 (rowsT b.kids).length]] := by
  simp only [rowsP, pairs, List.map_cons, List.map_nil, rowsT_length]

theorem ev_compare : ∀ (a b : Tm), Small (nodes a) → EV prog cfg 169 [.agg (cellsT a), .agg (cellsT b)] [] = some (.int .i64 (cmpT a b), []) := by
  intro a
  induction a using Tm.ind with
  | h f v ks ihk =>
    intro b ha
    generalize hA : Tm.mk f v ks = a at ha ⊢
    have hk : a.kids = ks := by rw [← hA]; rfl
    have hkl := nodes_len a
    rw [← cmpT_pairs]
    (refine EV_k rfl func169 (by rw [f169]) (by rw [f169]; rfl) (by rw [f169]; rfl) ?_; rw [ntmps169]; (conv => lhs; whnf))
    refine loop_for (β := Unit) (fun z _ => ⟨[(2, .ptr (.loc 0 0) 0), (3, .ptr (.loc 0 1) 0), (26, .own (.loc 0 2) 3), (27, .int .i64 3), (28, .int .i64 z)],
        [(.loc 0 0, .box (cellsT a)), (.loc 0 1, .box (cellsT b)), (.loc 0 2, .arr 197 2 (rowsP (pairs a b)) false)]⟩) 3 (fun i _ => 2 < i → a.kids.length = b.kids.length) (fun i _ => some (.int .i64 (cmpP ((pairs a b).drop i) (cmpL a.kids b.kids)), [])) () rfl (by rw [rowsP_eq]; rfl) (fun h => absurd h (by omega)) ?_
    intro i _ hi hI ih
    refine round_of ?_
    (conv => lhs; whnf)
    ((repeat (first | refine br_t ?_ | refine br_f ?_ | refine br_not ?_)); first | refine br_lt (fun h => ?_) (fun h => ?_) | refine br_le (fun h => ?_) (fun h => ?_) | refine br_eq (fun h => ?_) (fun h => ?_) | refine br_b (fun h => ?_) (fun h => ?_)) <;> (conv => lhs; whnf)
    · have hlt : i < (pairs a b).length := by show i < 3; omega
      rw [List.drop_eq_getElem_cons hlt]
      generalize hp : (pairs a b)[i] = p
      refine vuK_of (v_idx_fr (row := [.int .i64 p.1, .int .i64 p.2]) (by rw [rowsP, List.getElem?_map, List.getElem?_eq_getElem hlt, hp]; rfl) rfl rfl rfl rfl rfl rfl) ?_
      (conv => lhs; whnf)
      (repeat (any_goals (first | fail | (((repeat (first | refine br_t ?_ | refine br_f ?_ | refine br_not ?_)); first | refine br_lt (fun hh => ?_) (fun hh => ?_) | refine br_le (fun hh => ?_) (fun hh => ?_) | refine br_eq (fun hh => ?_) (fun hh => ?_) | refine br_b (fun hh => ?_) (fun hh => ?_)) <;> (conv => lhs; whnf)))))
      · refine res_int (z := -1) ?_
        rw [cmpP, if_pos (by assumption)]
      · refine res_int (z := 1) ?_
        rw [cmpP, if_neg (by omega), if_pos (by assumption)]
      · have hlt : i < 3 := hlt
        refine (ih _ _ () rfl (by rw [wrap_ok (by omega) (by omega)]; rfl) hlt (fun h2 => ?_)).trans ?_
        · have h2 : i = 2 := by omega
          subst h2
          have hp : ((a.kids.length : Int), (b.kids.length : Int)) = p := hp
          have e1 : p.1 = (a.kids.length : Int) := by rw [← hp]
          have e2 : p.2 = (b.kids.length : Int) := by rw [← hp]
          omega
        · rw [cmpP, if_neg (by omega), if_neg (by omega)]
    · have h3 : (pairs a b).drop i = [] := List.drop_eq_nil_of_le (by show 3 ≤ i; omega)
      rw [h3, cmpP]
      have hl := hI (by omega)
      refine loop_nat (fun z => ⟨[(2, .ptr (.loc 0 0) 0), (3, .ptr (.loc 0 1) 0), (47, .int .i64 (rowsT a.kids).length), (48, .int .i64 z)],
          [(.loc 0 0, .box (cellsT a)), (.loc 0 1, .box (cellsT b))]⟩) a.kids.length (fun i => some (.int .i64 (cmpL (a.kids.drop i) (b.kids.drop i)), [])) rfl rfl ?_
      clear ih
      intro j hj ih
      refine round_of ?_
      (conv => lhs; whnf)
      ((repeat (first | refine br_t ?_ | refine br_f ?_ | refine br_not ?_)); first | refine br_lt (fun h2 => ?_) (fun h2 => ?_) | refine br_le (fun h2 => ?_) (fun h2 => ?_) | refine br_eq (fun h2 => ?_) (fun h2 => ?_) | refine br_b (fun h2 => ?_) (fun h2 => ?_)) <;> (conv => lhs; whnf) <;> rw [rowsT_length] at h2
      · have hlt : j < a.kids.length := by omega
        have hlt2 : j < b.kids.length := by omega
        (refine vuK_of (v_idx (rowsT_get hlt) rfl rfl rfl rfl) ?_; (conv => lhs; whnf))
        (refine vuK_of (v_idx (rowsT_get hlt2) rfl rfl rfl rfl) ?_; (conv => lhs; whnf))
        rw [List.drop_eq_getElem_cons hlt, List.drop_eq_getElem_cons hlt2, cmpL]
        (refine vuK_of (v_call rfl rfl (ihk a.kids[j] (by rw [← hk]; exact List.getElem_mem hlt) b.kids[j] (by have := nodes_kid (List.getElem_mem hlt : a.kids[j] ∈ a.kids); omega)) rfl rfl) ?_; (conv => lhs; whnf))
        ((repeat (first | refine br_t ?_ | refine br_f ?_ | refine br_not ?_)); first | refine br_lt (fun h4 => ?_) (fun h4 => ?_) | refine br_le (fun h4 => ?_) (fun h4 => ?_) | refine br_eq (fun h4 => ?_) (fun h4 => ?_) | refine br_b (fun h4 => ?_) (fun h4 => ?_)) <;> (conv => lhs; whnf)
        · refine (ih _ _ rfl (wrap_succ hlt (by omega)) hlt).trans ?_
          rw [if_neg (by omega)]
        · rw [if_pos h4]; rfl
      · rw [List.drop_eq_nil_of_le (by omega), cmpL]
        · rfl
        · intro _ _ _ _ h _; cases h

theorem ev_Before (a b : Tm) (ha : Small (nodes a)) : EV prog cfg 152 [.agg (cellsT a), .agg (cellsT b)] [] = some (.bool (decide (cmpT a b < 0)), []) := by
  (refine EV_k rfl func152 (by rw [f152]) (by rw [f152]; rfl) (by rw [f152]; rfl) ?_; rw [ntmps152]; (conv => lhs; whnf))
  (refine vuK_of (v_call rfl rfl (ev_compare _ _ ha) rfl rfl) ?_; (conv => lhs; whnf))
  exact res_bool (ltI_eq _ _)

mutual
def sameT : Tm → Tm → Bool
  | .mk f v ks, b => decide (f = b.f) && decide (v = b.v) && decide (ks.length = b.kids.length) && sameL ks b.kids
def sameL : List Tm → List Tm → Bool
  | k :: ks, m :: ms => sameT k m && sameL ks ms
  | _, _ => true
end
theorem sameT_eq (a b : Tm) : sameT a b = (decide (a.f = b.f) && decide (a.v = b.v) && decide (a.kids.length = b.kids.length) && sameL a.kids b.kids) := by cases a; rw [sameT]; rfl

theorem ev_spec_TermSame : ∀ (a b : Tm), Small (nodes a) → EV prog cfg 102 [.agg (cellsT a), .agg (cellsT b)] [] = some (.bool (sameT a b), []) := by
  intro a
  induction a using Tm.ind with
  | h f v ks ihk =>
    intro b ha
    generalize hA : Tm.mk f v ks = a at ha ⊢
    have hk : a.kids = ks := by rw [← hA]; rfl
    have hkl := nodes_len a
    rw [sameT_eq]
    (refine EV_k rfl func102 (by rw [f102]) (by rw [f102]; rfl) (by rw [f102]; rfl) ?_; rw [ntmps102]; (conv => lhs; whnf))
    (repeat (any_goals (first | fail | (((repeat (first | refine br_t ?_ | refine br_f ?_ | refine br_not ?_)); first | refine br_lt (fun hh => ?_) (fun hh => ?_) | refine br_le (fun hh => ?_) (fun hh => ?_) | refine br_eq (fun hh => ?_) (fun hh => ?_) | refine br_b (fun hh => ?_) (fun hh => ?_)) <;> (conv => lhs; whnf)))))
    · rename_i h1 h2
      have h3 := hh
      rw [rowsT_length, rowsT_length] at h3
      have hl : a.kids.length = b.kids.length := by omega
      rw [decide_eq_true (show a.f = b.f by omega), decide_eq_true (show a.v = b.v by omega), decide_eq_true hl]
      refine loop_nat (fun z => ⟨[(2, .ptr (.loc 0 0) 0), (3, .ptr (.loc 0 1) 0), (5, .int .i64 z)], [(.loc 0 0, .box (cellsT a)), (.loc 0 1, .box (cellsT b))]⟩) a.kids.length
        (fun i => some (.bool (sameL (a.kids.drop i) (b.kids.drop i)), [])) rfl rfl ?_
      intro j hj ih
      refine round_of ?_
      (conv => lhs; whnf)
      ((repeat (first | refine br_t ?_ | refine br_f ?_ | refine br_not ?_)); first | refine br_lt (fun h2 => ?_) (fun h2 => ?_) | refine br_le (fun h2 => ?_) (fun h2 => ?_) | refine br_eq (fun h2 => ?_) (fun h2 => ?_) | refine br_b (fun h2 => ?_) (fun h2 => ?_)) <;> (conv => lhs; whnf) <;> rw [rowsT_length] at h2
      · have hlt : j < a.kids.length := by omega
        have hlt2 : j < b.kids.length := by omega
        (refine vuK_of (v_idx (rowsT_get hlt) rfl rfl rfl rfl) ?_; (conv => lhs; whnf))
        (refine vuK_of (v_idx (rowsT_get hlt2) rfl rfl rfl rfl) ?_; (conv => lhs; whnf))
        rw [List.drop_eq_getElem_cons hlt, List.drop_eq_getElem_cons hlt2, sameL]
        (refine vuK_of (v_call rfl rfl (ihk a.kids[j] (by rw [← hk]; exact List.getElem_mem hlt) b.kids[j] (by have := nodes_kid (List.getElem_mem hlt : a.kids[j] ∈ a.kids); omega)) rfl rfl) ?_; (conv => lhs; whnf))
        ((repeat (first | refine br_t ?_ | refine br_f ?_ | refine br_not ?_)); first | refine br_lt (fun h4 => ?_) (fun h4 => ?_) | refine br_le (fun h4 => ?_) (fun h4 => ?_) | refine br_eq (fun h4 => ?_) (fun h4 => ?_) | refine br_b (fun h4 => ?_) (fun h4 => ?_)) <;> (conv => lhs; whnf)
        · refine (ih _ _ rfl (wrap_succ hlt (by omega)) hlt).trans ?_
          rw [h4]; rfl
        · rw [h4]; rfl
      · rw [List.drop_eq_nil_of_le (by omega), sameL]
        · rfl
        · intro _ _ _ _ h _; cases h
    all_goals
      refine res_bool ?_
      first
        | (rw [rowsT_length, rowsT_length] at *; simp; omega)
        | (simp; omega)

theorem sameT_cmp : ∀ (a b : Tm), sameT a b = decide (cmpT a b = 0) := by
  intro a
  induction a using Tm.ind with
  | h f v ks ihk =>
    intro b
    have hL : ∀ (l m : List Tm), (∀ k ∈ l, ∀ b, sameT k b = decide (cmpT k b = 0)) → l.length = m.length → sameL l m = decide (cmpL l m = 0) := by
      intro l
      induction l with
      | nil => intro m _ _; cases m <;> simp [sameL, cmpL]
      | cons k l ih =>
        intro m hk hl
        cases m with
        | nil => simp at hl
        | cons m ms =>
          rw [sameL, cmpL, hk k (by simp) m, ih ms (fun x hx => hk x (by simp [hx])) (by simpa using hl)]
          by_cases h : cmpT k m = 0 <;> simp [h]
    rw [sameT_eq, cmpT_eq]
    simp only [show (Tm.mk f v ks).f = f from rfl, show (Tm.mk f v ks).v = v from rfl, show (Tm.mk f v ks).kids = ks from rfl]
    by_cases h1 : f < b.f
    · simp only [h1, if_true]; rw [decide_eq_false (show ¬ f = b.f by omega)]; rfl
    by_cases h2 : b.f < f
    · simp only [h1, h2, if_true, if_false]; rw [decide_eq_false (show ¬ f = b.f by omega)]; rfl
    by_cases h3 : v < b.v
    · simp only [h1, h2, h3, if_true, if_false]; rw [decide_eq_false (show ¬ v = b.v by omega)]; simp
    by_cases h4 : b.v < v
    · simp only [h1, h2, h3, h4, if_true, if_false]; rw [decide_eq_false (show ¬ v = b.v by omega)]; simp
    by_cases h5 : ks.length < b.kids.length
    · simp only [h1, h2, h3, h4, h5, if_true, if_false]; rw [decide_eq_false (show ¬ ks.length = b.kids.length by omega)]; simp
    by_cases h6 : b.kids.length < ks.length
    · simp only [h1, h2, h3, h4, h5, h6, if_true, if_false]; rw [decide_eq_false (show ¬ ks.length = b.kids.length by omega)]; simp
    rw [hL ks b.kids ihk (by omega)]
    simp only [h1, h2, h3, h4, h5, h6, if_false]
    rw [decide_eq_true (show f = b.f by omega), decide_eq_true (show v = b.v by omega), decide_eq_true (show ks.length = b.kids.length by omega)]
    simp

theorem ev_spec_Before : ∀ (a b : Tm), Small (nodes a) → EV prog cfg 163 [.agg (cellsT a), .agg (cellsT b)] [] = some (.bool (decide (cmpT a b < 0)), []) := by
  intro a
  induction a using Tm.ind with
  | h f v ks ihk =>
    intro b ha
    generalize hA : Tm.mk f v ks = a at ha ⊢
    have hk : a.kids = ks := by rw [← hA]; rfl
    have hkl := nodes_len a
    rw [cmpT_eq]
    (refine EV_k rfl func163 (by rw [f163]) (by rw [f163]; rfl) (by rw [f163]; rfl) ?_; rw [ntmps163]; (conv => lhs; whnf))
    (repeat (any_goals (first | fail | (((repeat (first | refine br_t ?_ | refine br_f ?_ | refine br_not ?_)); first | refine br_lt (fun hh => ?_) (fun hh => ?_) | refine br_le (fun hh => ?_) (fun hh => ?_) | refine br_eq (fun hh => ?_) (fun hh => ?_) | refine br_b (fun hh => ?_) (fun hh => ?_)) <;> (conv => lhs; whnf)))))
    · rename_i h1 h2
      have h3 := hh
      rw [rowsT_length, rowsT_length] at h3
      have hl : a.kids.length = b.kids.length := by omega
      rw [if_neg (show ¬ a.f < b.f by omega), if_neg (show ¬ b.f < a.f by omega), if_neg (show ¬ a.v < b.v by omega), if_neg (show ¬ b.v < a.v by omega), if_neg (show ¬ a.kids.length < b.kids.length by omega), if_neg (show ¬ b.kids.length < a.kids.length by omega)]
      refine loop_nat (fun z => ⟨[(2, .ptr (.loc 0 0) 0), (3, .ptr (.loc 0 1) 0), (5, .int .i64 z)], [(.loc 0 0, .box (cellsT a)), (.loc 0 1, .box (cellsT b))]⟩) a.kids.length
        (fun i => some (.bool (decide (cmpL (a.kids.drop i) (b.kids.drop i) < 0)), [])) rfl rfl ?_
      intro j hj ih
      refine round_of ?_
      (conv => lhs; whnf)
      ((repeat (first | refine br_t ?_ | refine br_f ?_ | refine br_not ?_)); first | refine br_lt (fun h2 => ?_) (fun h2 => ?_) | refine br_le (fun h2 => ?_) (fun h2 => ?_) | refine br_eq (fun h2 => ?_) (fun h2 => ?_) | refine br_b (fun h2 => ?_) (fun h2 => ?_)) <;> (conv => lhs; whnf) <;> rw [rowsT_length] at h2
      · have hlt : j < a.kids.length := by omega
        have hlt2 : j < b.kids.length := by omega
        have hm : a.kids[j] ∈ a.kids := List.getElem_mem hlt
        have hs : Small (nodes a.kids[j]) := by have := nodes_kid hm; omega
        (refine vuK_of (v_idx (rowsT_get hlt) rfl rfl rfl rfl) ?_; (conv => lhs; whnf))
        (refine vuK_of (v_idx (rowsT_get hlt2) rfl rfl rfl rfl) ?_; (conv => lhs; whnf))
        rw [List.drop_eq_getElem_cons hlt, List.drop_eq_getElem_cons hlt2, cmpL]
        (refine vuK_of (v_call rfl rfl (ev_spec_TermSame a.kids[j] b.kids[j] hs) rfl rfl) ?_; (conv => lhs; whnf))
        ((repeat (first | refine br_t ?_ | refine br_f ?_ | refine br_not ?_)); first | refine br_lt (fun h4 => ?_) (fun h4 => ?_) | refine br_le (fun h4 => ?_) (fun h4 => ?_) | refine br_eq (fun h4 => ?_) (fun h4 => ?_) | refine br_b (fun h4 => ?_) (fun h4 => ?_)) <;> (conv => lhs; whnf)
        · rw [sameT_cmp, decide_eq_true_iff] at h4
          refine (ih _ _ rfl (wrap_succ hlt (by omega)) hlt).trans ?_
          rw [if_neg (by simp [h4])]
        · rw [sameT_cmp, decide_eq_false_iff_not] at h4
          (refine vuK_of (v_idx (rowsT_get hlt) rfl rfl rfl rfl) ?_; (conv => lhs; whnf))
          (refine vuK_of (v_idx (rowsT_get hlt2) rfl rfl rfl rfl) ?_; (conv => lhs; whnf))
          (refine vuK_of (v_call rfl rfl (ihk a.kids[j] (by rw [← hk]; exact hm) b.kids[j] hs) rfl rfl) ?_; (conv => lhs; whnf))
          rw [if_pos h4]; rfl
      · rw [List.drop_eq_nil_of_le (by omega), cmpL]
        · rfl
        · intro _ _ _ _ h _; cases h
    all_goals
      refine res_bool ?_
      simp only [ltI_eq, rowsT_length] at *
      rw [decide_eq_decide]
      split <;> first | omega | (split <;> first | omega | (split <;> first | omega | (split <;> first | omega | (split <;> first | omega | (split <;> omega)))))
end Go.Proofs.Tryz
