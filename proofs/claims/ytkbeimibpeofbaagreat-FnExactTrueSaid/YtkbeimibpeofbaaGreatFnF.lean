/- The variables of terms and clauses. -/
import Derived.Test.YtkbeimibpeofbaaGreatFnE
set_option linter.unusedSimpArgs false
set_option linter.unusedVariables false
namespace Go.Proofs.Tryz
open Go Go.Sim Go.Braid

/-- The numbers of the variables, as they are met. -/
def addAll (l : List Int) (xs : List Int) : List Int := xs.foldl numAdd l
mutual
def occ : Tm → List Int
  | .mk f v ks => (if f = -1 then [v] else []) ++ occL ks
def occL : List Tm → List Int
  | [] => []
  | k :: ks => occ k ++ occL ks
end
theorem occ_eq (t : Tm) : occ t = (if t.f = -1 then [t.v] else []) ++ occL t.kids := by cases t; rw [occ]; rfl
theorem occL_len : ∀ (ks : List Tm), (∀ k ∈ ks, (occ k).length ≤ nodes k) → (occL ks).length ≤ nodesL ks
  | [], _ => by simp [occL]
  | k :: ks, h => by
    have := occL_len ks fun x hx => h x (by simp [hx])
    have := h k (by simp)
    simp only [occL, nodesL, List.length_append]; omega
theorem occ_len : ∀ (t : Tm), (occ t).length ≤ nodes t := by
  intro t
  induction t using Tm.ind with
  | h f v ks ih =>
    have := occL_len ks ih
    rw [occ, nodes]
    split <;> simp <;> omega
theorem numAdd_len (l : List Int) (n : Int) : (numAdd l n).length ≤ l.length + 1 := by
  unfold numAdd
  split
  · omega
  · simp; omega
theorem addAll_len : ∀ (xs l : List Int), (addAll l xs).length ≤ l.length + xs.length
  | [], l => by simp [addAll]
  | x :: xs, l => by
    have := addAll_len xs (numAdd l x)
    have := numAdd_len l x
    simp only [addAll, List.foldl_cons, List.length_cons] at *; omega
theorem addAll_append (l a b : List Int) : addAll l (a ++ b) = addAll (addAll l a) b := List.foldl_append ..

set_option maxHeartbeats 1000000 in
theorem ev_l3Vars : ∀ (t : Tm) (l : List Int), Small (l.length + nodes t) → EV prog cfg 173 [.agg (cellsT t), .sl (rowsI l)] [] = some (.sl (rowsI (addAll l (occ t))), []) := by
  intro t
  induction t using Tm.ind with
  | h f v ks ihk =>
    intro l ha
    generalize hA : Tm.mk f v ks = t at ha ⊢
    have hk : t.kids = ks := by rw [← hA]; rfl
    have hkl := nodes_len t
    have hkk := nodes_kids t
    rw [occ_eq, addAll_append]
    (refine EV_k rfl func173 (by rw [f173]) (by rw [f173]; rfl) (by rw [f173]; rfl) ?_; rw [ntmps173]; (conv => lhs; whnf))
    ((repeat (first | refine br_t ?_ | refine br_f ?_ | refine br_not ?_)); first | refine br_lt (fun h1 => ?_) (fun h1 => ?_) | refine br_le (fun h1 => ?_) (fun h1 => ?_) | refine br_eq (fun h1 => ?_) (fun h1 => ?_) | refine br_b (fun h1 => ?_) (fun h1 => ?_)) <;> (conv => lhs; whnf)
    · rw [if_pos h1]
      have hna := numAdd_len l t.v
      (refine vuK_of (v_call rfl rfl (ev_spec_NumAdd l t.v (by omega)) rfl rfl) ?_; (conv => lhs; whnf))
      refine loop_for (β := List Int) (fun z m => ⟨[(1, .sl (rowsI m)), (2, .ptr (.loc 0 0) 0), (5, .int .i64 z)], [(.loc 0 0, .box (cellsT t))]⟩) t.kids.length
        (fun i m => Small (m.length + nodesL (t.kids.drop i))) (fun i m => some (.sl (rowsI (addAll m (occL (t.kids.drop i)))), [])) (numAdd l t.v) rfl rfl (by simp only [List.drop_zero]; omega) ?_
      intro i m hi hI ih
      refine round_of ?_
      (conv => lhs; whnf)
      ((repeat (first | refine br_t ?_ | refine br_f ?_ | refine br_not ?_)); first | refine br_lt (fun h5 => ?_) (fun h5 => ?_) | refine br_le (fun h5 => ?_) (fun h5 => ?_) | refine br_eq (fun h5 => ?_) (fun h5 => ?_) | refine br_b (fun h5 => ?_) (fun h5 => ?_)) <;> (conv => lhs; whnf) <;> rw [rowsT_length] at h5
      · have hlt : i < t.kids.length := by omega
        have hI' : m.length + nodesL (t.kids.drop i) < 1099511627776 := hI
        rw [List.drop_eq_getElem_cons hlt, nodesL] at hI'
        rw [List.drop_eq_getElem_cons hlt, occL, addAll_append]
        (refine vuK_of (v_idx (rowsT_get hlt) rfl rfl rfl rfl) ?_; (conv => lhs; whnf))
        (refine vuK_of (v_call rfl rfl (ihk t.kids[i] (by rw [← hk]; exact List.getElem_mem hlt) m (by omega)) rfl rfl) ?_; (conv => lhs; whnf))
        have h6 := addAll_len (occ t.kids[i]) m
        have h7 := occ_len t.kids[i]
        exact ih _ _ (addAll m (occ t.kids[i])) rfl (wrap_succ hlt (by omega)) hlt (show _ < _ by omega)
      · rw [List.drop_eq_nil_of_le (by omega)]; rfl
    · rw [if_neg (by omega)]
      refine loop_for (β := List Int) (fun z m => ⟨[(1, .sl (rowsI m)), (2, .ptr (.loc 0 0) 0), (5, .int .i64 z)], [(.loc 0 0, .box (cellsT t))]⟩) t.kids.length
        (fun i m => Small (m.length + nodesL (t.kids.drop i))) (fun i m => some (.sl (rowsI (addAll m (occL (t.kids.drop i)))), [])) l rfl rfl (by simp only [List.drop_zero]; omega) ?_
      intro i m hi hI ih
      refine round_of ?_
      (conv => lhs; whnf)
      ((repeat (first | refine br_t ?_ | refine br_f ?_ | refine br_not ?_)); first | refine br_lt (fun h5 => ?_) (fun h5 => ?_) | refine br_le (fun h5 => ?_) (fun h5 => ?_) | refine br_eq (fun h5 => ?_) (fun h5 => ?_) | refine br_b (fun h5 => ?_) (fun h5 => ?_)) <;> (conv => lhs; whnf) <;> rw [rowsT_length] at h5
      · have hlt : i < t.kids.length := by omega
        have hI' : m.length + nodesL (t.kids.drop i) < 1099511627776 := hI
        rw [List.drop_eq_getElem_cons hlt, nodesL] at hI'
        rw [List.drop_eq_getElem_cons hlt, occL, addAll_append]
        (refine vuK_of (v_idx (rowsT_get hlt) rfl rfl rfl rfl) ?_; (conv => lhs; whnf))
        (refine vuK_of (v_call rfl rfl (ihk t.kids[i] (by rw [← hk]; exact List.getElem_mem hlt) m (by omega)) rfl rfl) ?_; (conv => lhs; whnf))
        have h6 := addAll_len (occ t.kids[i]) m
        have h7 := occ_len t.kids[i]
        exact ih _ _ (addAll m (occ t.kids[i])) rfl (wrap_succ hlt (by omega)) hlt (show _ < _ by omega)
      · rw [List.drop_eq_nil_of_le (by omega)]; rfl

def outA : Option (List Int) → AV
  | none => .own (.out 1) 0
  | some l => .sl (rowsI l)
def addO (o : Option (List Int)) (xs : List Int) : Option (List Int) := if xs = [] then o else some (addAll (o.getD []) xs)
theorem addO_append (o : Option (List Int)) (a b : List Int) : addO o (a ++ b) = addO (addO o a) b := by
  unfold addO
  by_cases ha : a = []
  · simp [ha]
  · by_cases hb : b = []
    · simp [ha, hb]
    · simp [ha, hb, addAll_append]
theorem addO_len (o : Option (List Int)) (xs : List Int) : ((addO o xs).getD []).length ≤ (o.getD []).length + xs.length := by
  unfold addO
  split
  · omega
  · exact addAll_len _ _

def ownV (t : Tm) : List Int := if t.f = -1 then [t.v] else []
theorem ownV_len (t : Tm) : (ownV t).length ≤ 1 := by unfold ownV; split <;> simp
theorem occ_eq' (t : Tm) : occ t = ownV t ++ occL t.kids := occ_eq t

theorem ev_VarsOf_1n (t : Tm) : EV prog cfg 156 [.agg (cellsT t), .ptr (.out 0) 0] [.box [.own (.out 1) 0], .arr 3 1 [] false] =
    some (.tup [], [.box [outA (addO none (ownV t))], .arr 3 1 [] false]) := by
  by_cases h0 : t.f = -1
  · rw [show ownV t = [t.v] from if_pos h0]
    (refine EV_k rfl func156 (by rw [f156]) (by rw [f156]; rfl) (by rw [f156]; rfl) ?_; rw [ntmps156]; (conv => lhs; whnf))
    (refine vuK_of (v_call rfl rfl (ev_isVar t) rfl rfl) ?_; (conv => lhs; whnf))
    ((repeat (first | refine br_t ?_ | refine br_f ?_ | refine br_not ?_)); first | refine br_lt (fun h1 => ?_) (fun h1 => ?_) | refine br_le (fun h1 => ?_) (fun h1 => ?_) | refine br_eq (fun h1 => ?_) (fun h1 => ?_) | refine br_b (fun h1 => ?_) (fun h1 => ?_)) <;> (conv => lhs; whnf)
    · (refine vuK_of (v_call rfl rfl (ev_NumAdd [] t.v (by simp)) rfl rfl) ?_; (conv => lhs; whnf))
      rfl
    · simp [h0] at h1
  · rw [show ownV t = [] from if_neg h0]
    (refine EV_k rfl func156 (by rw [f156]) (by rw [f156]; rfl) (by rw [f156]; rfl) ?_; rw [ntmps156]; (conv => lhs; whnf))
    (refine vuK_of (v_call rfl rfl (ev_isVar t) rfl rfl) ?_; (conv => lhs; whnf))
    ((repeat (first | refine br_t ?_ | refine br_f ?_ | refine br_not ?_)); first | refine br_lt (fun h1 => ?_) (fun h1 => ?_) | refine br_le (fun h1 => ?_) (fun h1 => ?_) | refine br_eq (fun h1 => ?_) (fun h1 => ?_) | refine br_b (fun h1 => ?_) (fun h1 => ?_)) <;> (conv => lhs; whnf)
    · simp [h0] at h1
    · rfl
theorem ev_VarsOf_1s (t : Tm) (l : List Int) (h : Small l.length) : EV prog cfg 156 [.agg (cellsT t), .ptr (.out 0) 0] [.box [.sl (rowsI l)]] =
    some (.tup [], [.box [.sl (rowsI (addAll l (ownV t)))]]) := by
  by_cases h0 : t.f = -1
  · rw [show ownV t = [t.v] from if_pos h0]
    (refine EV_k rfl func156 (by rw [f156]) (by rw [f156]; rfl) (by rw [f156]; rfl) ?_; rw [ntmps156]; (conv => lhs; whnf))
    (refine vuK_of (v_call rfl rfl (ev_isVar t) rfl rfl) ?_; (conv => lhs; whnf))
    ((repeat (first | refine br_t ?_ | refine br_f ?_ | refine br_not ?_)); first | refine br_lt (fun h1 => ?_) (fun h1 => ?_) | refine br_le (fun h1 => ?_) (fun h1 => ?_) | refine br_eq (fun h1 => ?_) (fun h1 => ?_) | refine br_b (fun h1 => ?_) (fun h1 => ?_)) <;> (conv => lhs; whnf)
    · (refine vuK_of (v_call rfl rfl (ev_NumAdd l t.v h) rfl rfl) ?_; (conv => lhs; whnf))
      rfl
    · simp [h0] at h1
  · rw [show ownV t = [] from if_neg h0]
    (refine EV_k rfl func156 (by rw [f156]) (by rw [f156]; rfl) (by rw [f156]; rfl) ?_; rw [ntmps156]; (conv => lhs; whnf))
    (refine vuK_of (v_call rfl rfl (ev_isVar t) rfl rfl) ?_; (conv => lhs; whnf))
    ((repeat (first | refine br_t ?_ | refine br_f ?_ | refine br_not ?_)); first | refine br_lt (fun h1 => ?_) (fun h1 => ?_) | refine br_le (fun h1 => ?_) (fun h1 => ?_) | refine br_eq (fun h1 => ?_) (fun h1 => ?_) | refine br_b (fun h1 => ?_) (fun h1 => ?_)) <;> (conv => lhs; whnf)
    · simp [h0] at h1
    · rfl

theorem ev_each_s : ∀ (t : Tm) (l : List Int), Small (l.length + nodes t) → EV prog cfg 155 [.agg (cellsT t), .clo 156 [.out 0]] [.box [.sl (rowsI l)]] =
    some (.tup [], [.box [.sl (rowsI (addAll l (occ t)))]]) := by
  intro t
  induction t using Tm.ind with
  | h f v ks ihk =>
    intro l ha
    generalize hA : Tm.mk f v ks = t at ha ⊢
    have hk : t.kids = ks := by rw [← hA]; rfl
    have hkl := nodes_len t
    have hkk := nodes_kids t
    have h3 := ownV_len t
    have h2 := addAll_len (ownV t) l
    rw [occ_eq', addAll_append]
    (refine EV_k rfl func155 (by rw [f155]) (by rw [f155]; rfl) (by rw [f155]; rfl) ?_; rw [ntmps155]; (conv => lhs; whnf))
    (refine vuK_of (v_call rfl rfl (ev_VarsOf_1s t l (by omega)) rfl rfl) ?_; (conv => lhs; whnf))
    refine loop_for (β := List Int) (fun z m => ⟨[(1, .clo 156 [.out 0]), (10, .sl (rowsT t.kids)), (11, .int .i64 (rowsT t.kids).length), (12, .int .i64 z)], [(.out 0, .box [.sl (rowsI m)])]⟩) t.kids.length
      (fun i m => Small (m.length + nodesL (t.kids.drop i))) (fun i m => some (.tup [], [.box [.sl (rowsI (addAll m (occL (t.kids.drop i))))]])) (addAll l (ownV t)) rfl rfl (show _ < _ by simp only [List.drop_zero]; omega) ?_
    intro i m hi hI ih
    refine round_of ?_
    (conv => lhs; whnf)
    ((repeat (first | refine br_t ?_ | refine br_f ?_ | refine br_not ?_)); first | refine br_lt (fun h5 => ?_) (fun h5 => ?_) | refine br_le (fun h5 => ?_) (fun h5 => ?_) | refine br_eq (fun h5 => ?_) (fun h5 => ?_) | refine br_b (fun h5 => ?_) (fun h5 => ?_)) <;> (conv => lhs; whnf) <;> rw [rowsT_length] at h5
    · have hlt : i < t.kids.length := by omega
      have hI' : m.length + nodesL (t.kids.drop i) < 1099511627776 := hI
      rw [List.drop_eq_getElem_cons hlt, nodesL] at hI'
      rw [List.drop_eq_getElem_cons hlt, occL, addAll_append]
      (refine vuK_of (v_idx (rowsT_get hlt) rfl rfl rfl rfl) ?_; (conv => lhs; whnf))
      (refine vuK_of (v_call rfl rfl (ihk t.kids[i] (by rw [← hk]; exact List.getElem_mem hlt) m (by omega)) rfl rfl) ?_; (conv => lhs; whnf))
      have h6 := addAll_len (occ t.kids[i]) m
      have h7 := occ_len t.kids[i]
      exact ih _ _ (addAll m (occ t.kids[i])) rfl (wrap_succ hlt (by omega)) hlt (show _ < _ by omega)
    · rw [List.drop_eq_nil_of_le (by omega)]; rfl

set_option maxHeartbeats 1000000 in
theorem ev_each_n : ∀ (t : Tm), Small (nodes t) → EV prog cfg 155 [.agg (cellsT t), .clo 156 [.out 0]] [.box [.own (.out 1) 0], .arr 3 1 [] false] =
    some (.tup [], [.box [outA (addO none (occ t))], .arr 3 1 [] false]) := by
  intro t
  induction t using Tm.ind with
  | h f v ks ihk =>
    intro ha
    generalize hA : Tm.mk f v ks = t at ha ⊢
    have hk : t.kids = ks := by rw [← hA]; rfl
    have hkl := nodes_len t
    have hkk := nodes_kids t
    have h3 := ownV_len t
    have h2 := addO_len none (ownV t)
    have h1 := ev_VarsOf_1n t
    rw [occ_eq', addO_append]
    generalize addO none (ownV t) = o1 at h1 h2 ⊢
    have h2 : (o1.getD []).length ≤ 1 := by simp at h2; omega
    (refine EV_k rfl func155 (by rw [f155]) (by rw [f155]; rfl) (by rw [f155]; rfl) ?_; rw [ntmps155]; (conv => lhs; whnf))
    (refine vuK_of (v_call rfl rfl (h1) rfl rfl) ?_; (conv => lhs; whnf))
    cases o1
    all_goals (conv => lhs; whnf)
    all_goals
      refine loop_for (β := Option (List Int)) (fun z o => ⟨[(1, .clo 156 [.out 0]), (10, .sl (rowsT t.kids)), (11, .int .i64 (rowsT t.kids).length), (12, .int .i64 z)], [(.out 0, .box [outA o]), (.out 1, .arr 3 1 [] false)]⟩) t.kids.length
        (fun i o => Small ((o.getD []).length + nodesL (t.kids.drop i))) (fun i o => some (.tup [], [.box [outA (addO o (occL (t.kids.drop i)))], .arr 3 1 [] false])) _ rfl rfl (show _ < _ by simp only [List.drop_zero]; omega) ?_
      intro i o hi hI ih
      refine round_of ?_
      (conv => lhs; whnf)
      ((repeat (first | refine br_t ?_ | refine br_f ?_ | refine br_not ?_)); first | refine br_lt (fun h5 => ?_) (fun h5 => ?_) | refine br_le (fun h5 => ?_) (fun h5 => ?_) | refine br_eq (fun h5 => ?_) (fun h5 => ?_) | refine br_b (fun h5 => ?_) (fun h5 => ?_)) <;> (conv => lhs; whnf) <;> rw [rowsT_length] at h5
      · have hlt : i < t.kids.length := by omega
        have hI' : (o.getD []).length + nodesL (t.kids.drop i) < 1099511627776 := hI
        rw [List.drop_eq_getElem_cons hlt, nodesL] at hI'
        rw [List.drop_eq_getElem_cons hlt, occL, addO_append]
        have h6 := addO_len o (occ t.kids[i])
        have h7 := occ_len t.kids[i]
        (refine vuK_of (v_idx (rowsT_get hlt) rfl rfl rfl rfl) ?_; (conv => lhs; whnf))
        have hc := ihk t.kids[i] (by rw [← hk]; exact List.getElem_mem hlt)
        cases o with
        | none =>
          have hc := hc (by omega)
          generalize addO none (occ t.kids[i]) = o2 at hc h6 ⊢
          (conv => lhs; whnf)
          (refine vuK_of (v_call rfl rfl (hc) rfl rfl) ?_; (conv => lhs; whnf))
          have h6 : (o2.getD []).length ≤ 0 + (occ t.kids[i]).length := h6
          have hI3 : 0 + (nodes t.kids[i] + nodesL (t.kids.drop (i + 1))) < 1099511627776 := hI'
          cases o2 with
          | none =>
            (conv => lhs; whnf)
            exact ih _ _ none rfl (wrap_succ hlt (by omega)) hlt (show _ < _ by omega)
          | some l2 =>
            (conv => lhs; whnf)
            exact ih _ _ (some l2) rfl (wrap_succ hlt (by omega)) hlt (show _ < _ by omega)
        | some m =>
          have hI3 : m.length + (nodes t.kids[i] + nodesL (t.kids.drop (i + 1))) < 1099511627776 := hI'
          have hs := ev_each_s t.kids[i] m (by omega)
          rw [show addO (some m) (occ t.kids[i]) = some (addAll m (occ t.kids[i])) by
            unfold addO
            split
            · next h => rw [h]; rfl
            · rfl]
          have h8 := addAll_len (occ t.kids[i]) m
          (conv => lhs; whnf)
          (refine vuK_of (v_call rfl rfl (hs) rfl rfl) ?_; (conv => lhs; whnf))
          exact ih _ _ (some (addAll m (occ t.kids[i]))) rfl (wrap_succ hlt (by omega)) hlt (show (addAll m (occ t.kids[i])).length + nodesL (t.kids.drop (i + 1)) < 1099511627776 by omega)
      · rw [List.drop_eq_nil_of_le (by omega)]
        cases o <;> rfl

def varsT (t : Tm) : List Int := addAll [] (occ t)
theorem varsT_len (t : Tm) : (varsT t).length ≤ nodes t := by
  have := addAll_len (occ t) []
  have := occ_len t
  unfold varsT
  simp only [List.length_nil] at *; omega
theorem ev_VarsOf (t : Tm) (ha : Small (nodes t)) : EV prog cfg 87 [.agg (cellsT t)] [] = some (.sl (rowsI (varsT t)), []) := by
  have hc := ev_each_n t ha
  have ho : varsT t = (addO none (occ t)).getD [] := by
    unfold addO varsT
    split
    · next h => rw [h]; rfl
    · rfl
  rw [ho]
  generalize addO none (occ t) = o at hc ⊢
  (refine EV_k rfl func87 (by rw [f87]) (by rw [f87]; rfl) (by rw [f87]; rfl) ?_; rw [ntmps87]; (conv => lhs; whnf))
  (refine vuK_of (v_call rfl rfl (hc) rfl rfl) ?_; (conv => lhs; whnf))
  cases o with
  | none =>
    (conv => lhs; whnf)
    rfl
  | some l =>
    (conv => lhs; whnf)
    rfl

/-- What is told so far: nothing yet, or a list. -/
def outV (r : Ref) : Option (List Int) → AV
  | none => .own r 0
  | some l => .sl (rowsI l)
def outO (r : Ref) : Option (List Int) → List (Ref × Ob)
  | none => [(r, .arr 3 1 [] false)]
  | some _ => []
def occC (c : List Lt) : List Int := c.flatMap fun l => occ l.l ++ occ l.r
theorem occC_cons (l : Lt) (c : List Lt) : occC (l :: c) = occ l.l ++ occ l.r ++ occC c := by simp [occC]
def varsC (c : List Lt) : List Int := addAll [] (occC c)

set_option maxHeartbeats 1000000 in
theorem ev_spec_ClauseVars (c : List Lt) (hc : ClSmall c) : EV prog cfg 108 [.agg [.sl (rowsL c)]] [] = some (.sl (rowsI (varsC c)), []) := by
  have hcl := hc.len
  have hc0 : nodesC c < 1099511627776 := hc
  (refine EV_k rfl func108 (by rw [f108]) (by rw [f108]; rfl) (by rw [f108]; rfl) ?_; rw [ntmps108]; (conv => lhs; whnf))
  refine loop_for (β := Option (List Int)) (fun z o => ⟨[(1, .ptr (.loc 0 0) 0), (3, outV (.loc 0 1) o), (4, .int .i64 z)], (.loc 0 0, .box [.sl (rowsL c)]) :: outO (.loc 0 1) o⟩) c.length
    (fun i o => (o.getD []).length + nodesC (c.drop i) < 1099511627776) (fun i o => some (.sl (rowsI (addAll (o.getD []) (occC (c.drop i)))), [])) none rfl rfl (by simp only [List.drop_zero, Option.getD_none, List.length_nil]; omega) ?_
  intro i o hi hI ih
  refine round_of ?_
  (conv => lhs; whnf)
  ((repeat (first | refine br_t ?_ | refine br_f ?_ | refine br_not ?_)); first | refine br_lt (fun h5 => ?_) (fun h5 => ?_) | refine br_le (fun h5 => ?_) (fun h5 => ?_) | refine br_eq (fun h5 => ?_) (fun h5 => ?_) | refine br_b (fun h5 => ?_) (fun h5 => ?_)) <;> (conv => lhs; whnf) <;> rw [rowsL_length] at h5
  · have hlt : i < c.length := by omega
    rw [List.drop_eq_getElem_cons hlt, nodesC] at hI
    rw [List.drop_eq_getElem_cons hlt, occC_cons, addAll_append, addAll_append]
    have h6 := addAll_len (occ c[i].l) (o.getD [])
    have h7 := occ_len c[i].l
    have h8 := addAll_len (occ c[i].r) (addAll (o.getD []) (occ c[i].l))
    have h9 := occ_len c[i].r
    have hL := ev_l3Vars c[i].l (o.getD []) (by omega)
    have hR := ev_l3Vars c[i].r (addAll (o.getD []) (occ c[i].l)) (by omega)
    cases o with
    | none =>
      (conv => lhs; whnf)
      (refine vuK_of (v_idx (rowsL_get hlt) rfl rfl rfl rfl) ?_; (conv => lhs; whnf))
      (refine vuK_of (v_idx (rowsL_get hlt) rfl rfl rfl rfl) ?_; (conv => lhs; whnf))
      (refine vuK_of (v_call rfl rfl (hL) rfl rfl) ?_; (conv => lhs; whnf))
      (refine vuK_of (v_call rfl rfl (hR) rfl rfl) ?_; (conv => lhs; whnf))
      exact ih _ _ (some (addAll (addAll [] (occ c[i].l)) (occ c[i].r))) rfl (wrap_succ hlt (by omega)) hlt (show (addAll (addAll ((none : Option (List Int)).getD []) (occ c[i].l)) (occ c[i].r)).length + nodesC (c.drop (i + 1)) < 1099511627776 by omega)
    | some m =>
      (conv => lhs; whnf)
      (refine vuK_of (v_idx (rowsL_get hlt) rfl rfl rfl rfl) ?_; (conv => lhs; whnf))
      (refine vuK_of (v_idx (rowsL_get hlt) rfl rfl rfl rfl) ?_; (conv => lhs; whnf))
      (refine vuK_of (v_call rfl rfl (hL) rfl rfl) ?_; (conv => lhs; whnf))
      (refine vuK_of (v_call rfl rfl (hR) rfl rfl) ?_; (conv => lhs; whnf))
      exact ih _ _ (some (addAll (addAll m (occ c[i].l)) (occ c[i].r))) rfl (wrap_succ hlt (by omega)) hlt (show (addAll (addAll ((some m).getD []) (occ c[i].l)) (occ c[i].r)).length + nodesC (c.drop (i + 1)) < 1099511627776 by omega)
  · rw [List.drop_eq_nil_of_le (by omega)]
    cases o <;> rfl

theorem lib_grow : cfg.lib 154 = some growF := rfl
theorem ev_Grow (n : Nat) (h : Small n) : EV prog cfg 154 [.nils, .int .i64 n] [] = some (.own (.out 0) 0, [.arr 3 1 [] true]) := by
  refine EV_lib lib_grow ?_
  have h : (0 : Int) ≤ (n : Int) ∧ (n : Int) < 1152921504606 := by omega
  unfold growF
  exact if_pos h

theorem flat_take (ls : List (List Int)) {i : Nat} (h : i < ls.length) : (ls.take (i + 1)).flatten = (ls.take i).flatten ++ ls[i] := by
  rw [List.take_succ_eq_append_getElem h, List.flatten_append]; simp
theorem flat_len (ls : List (List Int)) (i : Nat) : (ls.take i).flatten.length ≤ ls.flatten.length := by
  conv => rhs; rw [← List.take_append_drop i ls, List.flatten_append, List.length_append]
  omega

set_option maxHeartbeats 1000000 in
theorem ev_Concat (ls : List (List Int)) (hn : Small ls.length) (h : Small ls.flatten.length) : EV prog cfg 86 [.sl (rowsII ls)] [] = some (.sl (rowsI ls.flatten), []) := by
  (refine EV_k rfl func86 (by rw [f86]) (by rw [f86]; rfl) (by rw [f86]; rfl) ?_; rw [ntmps86]; (conv => lhs; whnf))
  refine loop_for (β := Unit) (fun z _ => ⟨[(0, .sl (rowsII ls)), (3, .int .i64 ((ls.take z.toNat).flatten.length : Int)), (9, .sl (rowsII ls)), (10, .int .i64 (rowsII ls).length), (11, .int .i64 z)], []⟩) ls.length (fun _ _ => True)
    (fun _ _ => some (.sl (rowsI ls.flatten), [])) () rfl rfl trivial ?_
  intro i _ hi _ ih
  refine round_of ?_
  (conv => lhs; whnf)
  have hfl := flat_len ls
  ((repeat (first | refine br_t ?_ | refine br_f ?_ | refine br_not ?_)); first | refine br_lt (fun h5 => ?_) (fun h5 => ?_) | refine br_le (fun h5 => ?_) (fun h5 => ?_) | refine br_eq (fun h5 => ?_) (fun h5 => ?_) | refine br_b (fun h5 => ?_) (fun h5 => ?_)) <;> (conv => lhs; whnf) <;> rw [rowsII_length] at h5
  · have hlt : i < ls.length := by omega
    (refine vuK_of (v_idx (rowsII_get hlt) rfl rfl rfl rfl) ?_; (conv => lhs; whnf))
    have h6 := hfl (i + 1)
    rw [flat_take ls hlt, List.length_append] at h6
    have hz : ((i + 1 : Nat) : Int).toNat = i + 1 := rfl
    have hs : IntKind.wrap .i64 (((ls.take i).flatten.length : Int) + ((rowsI ls[i]).length : Int)) = ((ls.take ((i + 1 : Nat) : Int).toNat).flatten.length : Int) := by
      rw [hz, flat_take ls hlt, rowsI_length, wrap_ok (by omega) (by omega), List.length_append]; omega
    ((repeat (first | refine br_t ?_ | refine br_f ?_ | refine br_not ?_)); first | refine br_lt (fun h7 => ?_) (fun h7 => ?_) | refine br_le (fun h7 => ?_) (fun h7 => ?_) | refine br_eq (fun h7 => ?_) (fun h7 => ?_) | refine br_b (fun h7 => ?_) (fun h7 => ?_)) <;> (conv => lhs; whnf)
    · exfalso
      have h7 : IntKind.wrap .i64 (((ls.take i).flatten.length : Int) + ((rowsI ls[i]).length : Int)) < 0 := h7
      rw [hs] at h7; omega
    · refine ih _ ((i + 1 : Nat) : Int) () ?_ rfl hlt trivial
      rw [← hs]
      rw [show ((i + 1 : Nat) : Int) = IntKind.wrap .i64 ((i : Int) + 1) from (wrap_succ hlt (by omega)).symm]
      rfl
  · have hil : ls.take i = ls := List.take_of_length_le (by omega)
    have hfi : ((ls.take ((i : Nat) : Int).toNat).flatten.length : Int) = (ls.flatten.length : Int) := by rw [show ((i : Nat) : Int).toNat = i from rfl, hil]
    have hG := ev_Grow ls.flatten.length h
    rw [← hfi] at hG
    (refine vuK_of (v_call rfl rfl (hG) rfl rfl) ?_; (conv => lhs; whnf))
    clear ih
    refine loop_for (β := Unit) (fun z _ => ⟨[(6, .own (.loc 0 0) (rowsI (ls.take z.toNat).flatten).length), (25, .sl (rowsII ls)), (26, .int .i64 (rowsII ls).length), (27, .int .i64 z)], [(.loc 0 0, .arr 3 1 (rowsI (ls.take z.toNat).flatten) true)]⟩) ls.length (fun _ _ => True)
      (fun _ _ => some (.sl (rowsI ls.flatten), [])) () rfl rfl trivial ?_
    intro i _ hi _ ih
    refine round_of ?_
    (conv => lhs; whnf)
    ((repeat (first | refine br_t ?_ | refine br_f ?_ | refine br_not ?_)); first | refine br_lt (fun h5 => ?_) (fun h5 => ?_) | refine br_le (fun h5 => ?_) (fun h5 => ?_) | refine br_eq (fun h5 => ?_) (fun h5 => ?_) | refine br_b (fun h5 => ?_) (fun h5 => ?_)) <;> (conv => lhs; whnf) <;> rw [rowsII_length] at h5
    · have hlt : i < ls.length := by omega
      (refine vuK_of (v_idx (rowsII_get hlt) rfl rfl rfl rfl) ?_; (conv => lhs; whnf))
      have h6 := hfl (i + 1)
      rw [flat_take ls hlt, List.length_append] at h6
      (refine vuK_of (v_app_I ((ls.take i).flatten ) ( ls[i] ) ( by omega) rfl rfl rfl rfl rfl rfl rfl rfl rfl rfl rfl) ?_; (conv => lhs; whnf))
      have hz : ((i + 1 : Nat) : Int).toNat = i + 1 := rfl
      refine ih _ ((i + 1 : Nat) : Int) () ?_ rfl hlt trivial
      rw [hz, flat_take ls hlt, show ((i + 1 : Nat) : Int) = IntKind.wrap .i64 ((i : Int) + 1) from (wrap_succ hlt (by omega)).symm]
      rfl
    · have hil : ls.take i = ls := List.take_of_length_le (by omega)
      have hfi : (ls.take ((i : Nat) : Int).toNat).flatten = ls.flatten := by rw [show ((i : Nat) : Int).toNat = i from rfl, hil]
      (refine okK_of (by simp) ?_; (conv => lhs; whnf))
      rw [← hfi]
      rfl

def occC2 (c : List Lt) : List Int := c.flatMap fun l => varsT l.l ++ varsT l.r
theorem occC2_cons (l : Lt) (c : List Lt) : occC2 (l :: c) = varsT l.l ++ varsT l.r ++ occC2 c := by simp [occC2]
set_option maxHeartbeats 4000000 in
theorem ev_ClauseVars (c : List Lt) (hc : ClSmall c) : EV prog cfg 18 [.agg [.sl (rowsL c)]] [] = some (.sl (rowsI (addAll [] (occC2 c))), []) := by
  have hcl := hc.len
  have hc0 : nodesC c < 1099511627776 := hc
  (refine EV_k rfl func18 (by rw [f18]) (by rw [f18]; rfl) (by rw [f18]; rfl) ?_; rw [ntmps18]; (conv => lhs; whnf))
  refine loop_for (β := Option (List Int)) (fun z o => ⟨[(3, outV (.loc 0 0) o), (10, .sl (rowsL c)), (11, .int .i64 (rowsL c).length), (12, .int .i64 z)], outO (.loc 0 0) o⟩) c.length
    (fun i o => (o.getD []).length + nodesC (c.drop i) < 1099511627776) (fun i o => some (.sl (rowsI (addAll (o.getD []) (occC2 (c.drop i)))), [])) none rfl rfl (by simp only [List.drop_zero, Option.getD_none, List.length_nil]; omega) ?_
  intro i o hi hI ih
  refine round_of ?_
  (conv => lhs; whnf)
  ((repeat (first | refine br_t ?_ | refine br_f ?_ | refine br_not ?_)); first | refine br_lt (fun h5 => ?_) (fun h5 => ?_) | refine br_le (fun h5 => ?_) (fun h5 => ?_) | refine br_eq (fun h5 => ?_) (fun h5 => ?_) | refine br_b (fun h5 => ?_) (fun h5 => ?_)) <;> (conv => lhs; whnf) <;> rw [rowsL_length] at h5
  · have hlt : i < c.length := by omega
    rw [List.drop_eq_getElem_cons hlt, nodesC] at hI
    rw [List.drop_eq_getElem_cons hlt, occC2_cons, addAll_append]
    have h6 := varsT_len c[i].l
    have h7 := varsT_len c[i].r
    have hL := ev_VarsOf c[i].l (by omega)
    have hR := ev_VarsOf c[i].r (by omega)
    have hcc := ev_Concat [varsT c[i].l, varsT c[i].r] (show 2 < _ by omega) (show _ < _ by simp; omega)
    rw [show [varsT c[i].l, varsT c[i].r].flatten = varsT c[i].l ++ varsT c[i].r by simp] at hcc
    generalize hxs : varsT c[i].l ++ varsT c[i].r = xs at hcc ⊢
    have hxl : xs.length ≤ nodes c[i].l + nodes c[i].r := by rw [← hxs, List.length_append]; omega
    clear hxs
    cases o with
    | none =>
      (conv => lhs; whnf)
      (refine vuK_of (v_idx (rowsL_get hlt) rfl rfl rfl rfl) ?_; (conv => lhs; whnf))
      (refine vuK_of (v_call rfl rfl (hL) rfl rfl) ?_; (conv => lhs; whnf))
      (refine vuK_of (v_call rfl rfl (hR) rfl rfl) ?_; (conv => lhs; whnf))
      (refine vuK_of (v_call rfl rfl (hcc) rfl rfl) ?_; (conv => lhs; whnf))
      refine loop_for (β := Option (List Int)) (fun z o => ⟨[(3, outV (.loc 0 0) o), (10, .sl (rowsL c)), (11, .int .i64 (rowsL c).length), (12, .int .i64 i), (23, .sl (rowsI xs)), (24, .int .i64 (rowsI xs).length), (25, .int .i64 z)], outO (.loc 0 0) o⟩) xs.length
        (fun j o => (o.getD []).length + (xs.drop j).length + nodesC (c.drop (i + 1)) < 1099511627776) (fun j o => some (.sl (rowsI (addAll (addAll (o.getD []) (xs.drop j)) (occC2 (c.drop (i + 1))))), [])) none rfl rfl (by simp only [List.drop_zero]; omega) ?_
      intro j o hj hJ jh
      refine round_of ?_
      (conv => lhs; whnf)
      ((repeat (first | refine br_t ?_ | refine br_f ?_ | refine br_not ?_)); first | refine br_lt (fun h8 => ?_) (fun h8 => ?_) | refine br_le (fun h8 => ?_) (fun h8 => ?_) | refine br_eq (fun h8 => ?_) (fun h8 => ?_) | refine br_b (fun h8 => ?_) (fun h8 => ?_)) <;> (conv => lhs; whnf) <;> rw [rowsI_length] at h8
      · have hlj : j < xs.length := by omega
        rw [List.drop_eq_getElem_cons hlj, List.length_cons] at hJ
        rw [List.drop_eq_getElem_cons hlj]
        have h9 := numAdd_len (o.getD []) xs[j]
        have hN := ev_NumAdd (o.getD []) xs[j] (by omega)
        (refine vuK_of (v_idx (rowsI_get hlj) rfl rfl rfl rfl) ?_; (conv => lhs; whnf))
        cases o with
        | none =>
          (conv => lhs; whnf)
          (refine vuK_of (v_call rfl rfl (hN) rfl rfl) ?_; (conv => lhs; whnf))
          exact jh _ _ (some (numAdd [] xs[j])) rfl (wrap_succ hlj (by omega)) hlj (show (numAdd ((none : Option (List Int)).getD []) xs[j]).length + (xs.drop (j + 1)).length + nodesC (c.drop (i + 1)) < 1099511627776 by omega)
        | some m =>
          (conv => lhs; whnf)
          (refine vuK_of (v_call rfl rfl (hN) rfl rfl) ?_; (conv => lhs; whnf))
          exact jh _ _ (some (numAdd m xs[j])) rfl (wrap_succ hlj (by omega)) hlj (show (numAdd ((some m).getD []) xs[j]).length + (xs.drop (j + 1)).length + nodesC (c.drop (i + 1)) < 1099511627776 by omega)
      · rw [List.drop_eq_nil_of_le (by omega)] at hJ ⊢
        have hJ' : (o.getD []).length + nodesC (c.drop (i + 1)) < 1099511627776 := by simpa using hJ
        cases o with
        | none => exact ih _ _ none rfl (wrap_succ hlt (by omega)) hlt hJ'
        | some m => exact ih _ _ (some m) rfl (wrap_succ hlt (by omega)) hlt hJ'
    | some m0 =>
      (conv => lhs; whnf)
      (refine vuK_of (v_idx (rowsL_get hlt) rfl rfl rfl rfl) ?_; (conv => lhs; whnf))
      (refine vuK_of (v_call rfl rfl (hL) rfl rfl) ?_; (conv => lhs; whnf))
      (refine vuK_of (v_call rfl rfl (hR) rfl rfl) ?_; (conv => lhs; whnf))
      (refine vuK_of (v_call rfl rfl (hcc) rfl rfl) ?_; (conv => lhs; whnf))
      refine loop_for (β := Option (List Int)) (fun z o => ⟨[(3, outV (.loc 0 0) o), (10, .sl (rowsL c)), (11, .int .i64 (rowsL c).length), (12, .int .i64 i), (23, .sl (rowsI xs)), (24, .int .i64 (rowsI xs).length), (25, .int .i64 z)], outO (.loc 0 0) o⟩) xs.length
        (fun j o => (o.getD []).length + (xs.drop j).length + nodesC (c.drop (i + 1)) < 1099511627776) (fun j o => some (.sl (rowsI (addAll (addAll (o.getD []) (xs.drop j)) (occC2 (c.drop (i + 1))))), [])) (some m0) rfl rfl (by simp only [List.drop_zero]; omega) ?_
      intro j o hj hJ jh
      refine round_of ?_
      (conv => lhs; whnf)
      ((repeat (first | refine br_t ?_ | refine br_f ?_ | refine br_not ?_)); first | refine br_lt (fun h8 => ?_) (fun h8 => ?_) | refine br_le (fun h8 => ?_) (fun h8 => ?_) | refine br_eq (fun h8 => ?_) (fun h8 => ?_) | refine br_b (fun h8 => ?_) (fun h8 => ?_)) <;> (conv => lhs; whnf) <;> rw [rowsI_length] at h8
      · have hlj : j < xs.length := by omega
        rw [List.drop_eq_getElem_cons hlj, List.length_cons] at hJ
        rw [List.drop_eq_getElem_cons hlj]
        have h9 := numAdd_len (o.getD []) xs[j]
        have hN := ev_NumAdd (o.getD []) xs[j] (by omega)
        (refine vuK_of (v_idx (rowsI_get hlj) rfl rfl rfl rfl) ?_; (conv => lhs; whnf))
        cases o with
        | none =>
          (conv => lhs; whnf)
          (refine vuK_of (v_call rfl rfl (hN) rfl rfl) ?_; (conv => lhs; whnf))
          exact jh _ _ (some (numAdd [] xs[j])) rfl (wrap_succ hlj (by omega)) hlj (show (numAdd ((none : Option (List Int)).getD []) xs[j]).length + (xs.drop (j + 1)).length + nodesC (c.drop (i + 1)) < 1099511627776 by omega)
        | some m =>
          (conv => lhs; whnf)
          (refine vuK_of (v_call rfl rfl (hN) rfl rfl) ?_; (conv => lhs; whnf))
          exact jh _ _ (some (numAdd m xs[j])) rfl (wrap_succ hlj (by omega)) hlj (show (numAdd ((some m).getD []) xs[j]).length + (xs.drop (j + 1)).length + nodesC (c.drop (i + 1)) < 1099511627776 by omega)
      · rw [List.drop_eq_nil_of_le (by omega)] at hJ ⊢
        have hJ' : (o.getD []).length + nodesC (c.drop (i + 1)) < 1099511627776 := by simpa using hJ
        cases o with
        | none => exact ih _ _ none rfl (wrap_succ hlt (by omega)) hlt hJ'
        | some m => exact ih _ _ (some m) rfl (wrap_succ hlt (by omega)) hlt hJ'
  · rw [List.drop_eq_nil_of_le (by omega)]
    cases o <;> rfl
end Go.Proofs.Tryz
