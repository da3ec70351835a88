/- Lists of numbers. -/
import Derived.Test.YtkbeimibpeofbaaGreatFnD
set_option linter.unusedSimpArgs false
set_option linter.unusedVariables false
namespace Go.Proofs.Tryz
open Go Go.Sim Go.Braid

def numP (l : List Int) (n : Int) (i : Nat) : Bool := decide (l[i]? = some n)
theorem numP_lt {l : List Int} {n : Int} {i : Nat} (h : i < l.length) : numP l n i = decide (l[i] = n) := by simp [numP, h]
def idxOf (l : List Int) (n : Int) : Int := firstFrom (numP l n) 0 l.length
theorem ev_Index (l : List Int) (n : Int) (hl : Small l.length) : EV prog cfg 79 [.sl (rowsI l), .int .i64 n] [] = some (.int .i64 (idxOf l n), []) := by
  (refine EV_k rfl func79 (by rw [f79]) (by rw [f79]; rfl) (by rw [f79]; rfl) ?_; rw [ntmps79]; (conv => lhs; whnf))
  refine loop_nat (fun z => ⟨[(0, .sl (rowsI l)), (1, .int .i64 n), (7, .int .i64 (rowsI l).length), (8, .int .i64 z)], []⟩) l.length
    (fun i => some (.int .i64 (firstFrom (numP l n) i l.length), [])) rfl rfl ?_
  intro i hi ih
  refine round_of ?_
  (conv => lhs; whnf)
  ((repeat (first | refine br_t ?_ | refine br_f ?_ | refine br_not ?_)); first | refine br_lt (fun h5 => ?_) (fun h5 => ?_) | refine br_le (fun h5 => ?_) (fun h5 => ?_) | refine br_eq (fun h5 => ?_) (fun h5 => ?_) | refine br_b (fun h5 => ?_) (fun h5 => ?_)) <;> (conv => lhs; whnf) <;> rw [rowsI_length] at h5
  · have hlt : i < l.length := by omega
    rw [firstFrom_lt _ hlt, numP_lt hlt]
    (refine vuK_of (v_idx (rowsI_get hlt) rfl rfl rfl rfl) ?_; (conv => lhs; whnf))
    ((repeat (first | refine br_t ?_ | refine br_f ?_ | refine br_not ?_)); first | refine br_lt (fun h6 => ?_) (fun h6 => ?_) | refine br_le (fun h6 => ?_) (fun h6 => ?_) | refine br_eq (fun h6 => ?_) (fun h6 => ?_) | refine br_b (fun h6 => ?_) (fun h6 => ?_)) <;> (conv => lhs; whnf)
    · rw [if_pos (decide_eq_true h6.symm)]; rfl
    · rw [if_neg (by rw [decide_eq_true_iff]; omega)]
      exact ih _ _ rfl (wrap_succ hlt (by omega)) hlt
  · rw [firstFrom_ge _ (by omega)]; rfl

theorem first_nonneg (p : Nat → Bool) (n : Nat) : ∀ d i, n - i = d → (0 ≤ firstFrom p i n ↔ ∃ j, i ≤ j ∧ j < n ∧ p j = true) := by
  intro d
  induction d with
  | zero => intro i h; rw [firstFrom_ge _ (by omega)]; exact ⟨fun h => absurd h (by omega), fun ⟨j, h1, h2, _⟩ => by omega⟩
  | succ d ih =>
    intro i h
    rw [firstFrom_lt _ (by omega)]
    by_cases hp : p i = true
    · rw [if_pos hp]; exact ⟨fun _ => ⟨i, Nat.le_refl _, by omega, hp⟩, fun _ => by omega⟩
    · rw [if_neg hp, ih (i + 1) (by omega)]
      refine ⟨fun ⟨j, h1, h2, h3⟩ => ⟨j, by omega, h2, h3⟩, fun ⟨j, h1, h2, h3⟩ => ⟨j, ?_, h2, h3⟩⟩
      rcases Nat.lt_or_ge i j with h | h
      · exact h
      · rw [show j = i by omega] at h3; exact absurd h3 hp
theorem idxOf_nonneg (l : List Int) (n : Int) : 0 ≤ idxOf l n ↔ n ∈ l := by
  rw [idxOf, first_nonneg _ _ _ _ rfl]
  constructor
  · rintro ⟨j, _, hj, h⟩
    rw [numP_lt hj, decide_eq_true_iff] at h
    exact h ▸ List.getElem_mem hj
  · intro h
    obtain ⟨j, hj, rfl⟩ := List.getElem_of_mem h
    exact ⟨j, Nat.zero_le _, hj, by simp [numP_lt hj]⟩

theorem ev_Contains (l : List Int) (n : Int) (hl : Small l.length) : EV prog cfg 74 [.sl (rowsI l), .int .i64 n] [] = some (.bool (decide (n ∈ l)), []) := by
  (refine EV_k rfl func74 (by rw [f74]) (by rw [f74]; rfl) (by rw [f74]; rfl) ?_; rw [ntmps74]; (conv => lhs; whnf))
  (refine vuK_of (v_call rfl rfl (ev_Index l n hl) rfl rfl) ?_; (conv => lhs; whnf))
  refine res_bool ?_
  rw [leI_eq, decide_eq_decide, idxOf_nonneg]
theorem ev_NumIn (l : List Int) (n : Int) (hl : Small l.length) : EV prog cfg 159 [.sl (rowsI l), .int .i64 n] [] = some (.bool (decide (n ∈ l)), []) := by
  (refine EV_k rfl func159 (by rw [f159]) (by rw [f159]; rfl) (by rw [f159]; rfl) ?_; rw [ntmps159]; (conv => lhs; whnf))
  (refine vuK_of (v_call rfl rfl (ev_Contains l n hl) rfl rfl) ?_; (conv => lhs; whnf))
  rfl
theorem ev_spec_NumIn (l : List Int) (n : Int) (hl : Small l.length) : EV prog cfg 224 [.sl (rowsI l), .int .i64 n] [] = some (.bool (decide (n ∈ l)), []) := by
  (refine EV_k rfl func224 (by rw [f224]) (by rw [f224]; rfl) (by rw [f224]; rfl) ?_; rw [ntmps224]; (conv => lhs; whnf))
  have h0 : decide (n ∈ l) = decide (0 ≤ idxOf l n) := by rw [decide_eq_decide, idxOf_nonneg]
  refine loop_nat (fun z => ⟨[(0, .sl (rowsI l)), (1, .int .i64 n), (5, .int .i64 z)], []⟩) l.length
    (fun i => some (.bool (decide (0 ≤ firstFrom (numP l n) i l.length)), [])) (by rw [h0]; rfl) rfl ?_
  intro i hi ih
  refine round_of ?_
  (conv => lhs; whnf)
  ((repeat (first | refine br_t ?_ | refine br_f ?_ | refine br_not ?_)); first | refine br_lt (fun h5 => ?_) (fun h5 => ?_) | refine br_le (fun h5 => ?_) (fun h5 => ?_) | refine br_eq (fun h5 => ?_) (fun h5 => ?_) | refine br_b (fun h5 => ?_) (fun h5 => ?_)) <;> (conv => lhs; whnf) <;> rw [rowsI_length] at h5
  · have hlt : i < l.length := by omega
    rw [firstFrom_lt _ hlt, numP_lt hlt]
    (refine vuK_of (v_idx (rowsI_get hlt) rfl rfl rfl rfl) ?_; (conv => lhs; whnf))
    ((repeat (first | refine br_t ?_ | refine br_f ?_ | refine br_not ?_)); first | refine br_lt (fun h6 => ?_) (fun h6 => ?_) | refine br_le (fun h6 => ?_) (fun h6 => ?_) | refine br_eq (fun h6 => ?_) (fun h6 => ?_) | refine br_b (fun h6 => ?_) (fun h6 => ?_)) <;> (conv => lhs; whnf)
    · rw [if_pos (decide_eq_true h6)]
      refine res_bool (z := true) ?_
      rw [eq_comm, decide_eq_true_iff]; omega
    · rw [if_neg (by rw [decide_eq_true_iff]; omega)]
      exact ih _ _ rfl (wrap_succ hlt (by omega)) hlt
  · rw [firstFrom_ge _ (by omega)]; rfl

/-- Where a number comes. -/
def under (l : List Int) (n : Int) : Nat := (l.takeWhile fun x => decide (x < n)).length
def numAdd (l : List Int) (n : Int) : List Int := if n ∈ l then l else l.take (under l n) ++ [n] ++ l.drop (under l n)
theorem under_le (l : List Int) (n : Int) : under l n ≤ l.length := by
  unfold under
  exact List.IsPrefix.length_le (List.takeWhile_prefix _)

theorem under_cons (x : Int) (l : List Int) (n : Int) : under (x :: l) n = if x < n then under l n + 1 else 0 := by
  unfold under
  by_cases h : x < n
  · rw [List.takeWhile_cons_of_pos (by simpa using h), if_pos h]; rfl
  · rw [List.takeWhile_cons_of_neg (by simpa using h), if_neg h]; rfl
theorem under_step : ∀ (l : List Int) (n : Int) (i : Nat) (h : i < l.length), i ≤ under l n → (l[i] < n → i + 1 ≤ under l n) ∧ (n ≤ l[i] → under l n = i)
  | [], n, i, h, _ => by simp at h
  | x :: l, n, 0, h, _ => by
    rw [under_cons]
    simp only [List.getElem_cons_zero]
    exact ⟨fun h => by rw [if_pos h]; omega, fun h => by rw [if_neg (by omega)]⟩
  | x :: l, n, i + 1, h, hu => by
    rw [under_cons] at hu ⊢
    by_cases hx : x < n
    · rw [if_pos hx] at hu ⊢
      obtain ⟨h1, h2⟩ := under_step l n i (by simpa using h) (by omega)
      simp only [List.getElem_cons_succ]
      exact ⟨fun h => by have := h1 h; omega, fun h => by have := h2 h; omega⟩
    · rw [if_neg hx] at hu; omega

theorem ev_NumAdd_1 (x n : Int) : EV prog cfg 161 [.int .i64 x, .ptr (.out 0) 0] [.box [.int .i64 n]] = some (.bool (ltI n x), [.box [.int .i64 n]]) := by
  (refine EV_k rfl func161 (by rw [f161]) (by rw [f161]; rfl) (by rw [f161]; rfl) ?_; rw [ntmps161]; (conv => lhs; whnf))
  rfl
def gtP (l : List Int) (n : Int) (i : Nat) : Bool := match l[i]? with
  | some x => decide (n < x)
  | none => false
theorem ev_IndexFunc_gt (l : List Int) (n : Int) (hl : Small l.length) :
    EV prog cfg 160 [.sl (rowsI l), .clo 161 [.out 0]] [.box [.int .i64 n]] = some (.int .i64 (firstFrom (gtP l n) 0 l.length), [.box [.int .i64 n]]) := by
  (refine EV_k rfl func160 (by rw [f160]) (by rw [f160]; rfl) (by rw [f160]; rfl) ?_; rw [ntmps160]; (conv => lhs; whnf))
  refine loop_nat (fun z => ⟨[(0, .sl (rowsI l)), (1, .clo 161 [.out 0]), (7, .int .i64 (rowsI l).length), (8, .int .i64 z)], [(.out 0, .box [.int .i64 n])]⟩) l.length
    (fun i => some (.int .i64 (firstFrom (gtP l n) i l.length), [.box [.int .i64 n]])) rfl rfl ?_
  intro i hi ih
  refine round_of ?_
  (conv => lhs; whnf)
  ((repeat (first | refine br_t ?_ | refine br_f ?_ | refine br_not ?_)); first | refine br_lt (fun h5 => ?_) (fun h5 => ?_) | refine br_le (fun h5 => ?_) (fun h5 => ?_) | refine br_eq (fun h5 => ?_) (fun h5 => ?_) | refine br_b (fun h5 => ?_) (fun h5 => ?_)) <;> (conv => lhs; whnf) <;> rw [rowsI_length] at h5
  · have hlt : i < l.length := by omega
    have hg : gtP l n i = decide (n < l[i]) := by simp [gtP, hlt]
    rw [firstFrom_lt _ hlt, hg]
    (refine vuK_of (v_idx (rowsI_get hlt) rfl rfl rfl rfl) ?_; (conv => lhs; whnf))
    (refine vuK_of (v_call rfl rfl (ev_NumAdd_1 l[i] n) rfl rfl) ?_; (conv => lhs; whnf))
    ((repeat (first | refine br_t ?_ | refine br_f ?_ | refine br_not ?_)); first | refine br_lt (fun h6 => ?_) (fun h6 => ?_) | refine br_le (fun h6 => ?_) (fun h6 => ?_) | refine br_eq (fun h6 => ?_) (fun h6 => ?_) | refine br_b (fun h6 => ?_) (fun h6 => ?_)) <;> (conv => lhs; whnf)
    · rw [if_pos (decide_eq_true h6)]; rfl
    · rw [if_neg (by rw [decide_eq_true_iff]; omega)]
      exact ih _ _ rfl (wrap_succ hlt (by omega)) hlt
  · rw [firstFrom_ge _ (by omega)]; rfl
theorem lib_clone : cfg.lib 158 = some cloneF := rfl
theorem lib_insert : cfg.lib 162 = some insertF := rfl
theorem ev_Clone (l : List Int) (hl : Small l.length) : EV prog cfg 158 [.sl (rowsI l)] [] = some (.own (.out 0) (rowsI l).length, [.arr 3 1 (rowsI l) true]) := by
  refine EV_lib lib_clone ?_
  have h : ((rowsI l).length : Int) < 1152921504606 ∧ rowLens 1 (rowsI l) = true := ⟨by rw [rowsI_length]; omega, rowLens_I l⟩
  unfold cloneF
  exact if_pos h
theorem ev_Insert (l : List Int) (z : Int) (k : Nat) (n : Int) (hz : z = k) (hl : Small l.length) (hk : k ≤ l.length) :
    EV prog cfg 162 [.own (.out 0) (rowsI l).length, .int .i64 z, .own (.out 1) 1] [.arr 3 1 (rowsI l) true, .arr 3 1 [[.int .i64 n]] false] =
      some (.own (.out 0) ((rowsI l).length + 1), [.arr 3 1 (rowsI (l.take k ++ [n] ++ l.drop k)) true, .arr 3 1 [[.int .i64 n]] false]) := by
  subst hz
  refine EV_lib lib_insert ?_
  have h : (rowsI l).length = (rowsI l).length ∧ (0 : Int) ≤ (k : Int) ∧ (k : Int) ≤ ((rowsI l).length : Int) ∧ 3 = 3 ∧ 1 = 1 ∧ ((rowsI l).length : Int) < 1152921504606 := by rw [rowsI_length]; omega
  refine (if_pos h).trans ?_
  rw [rowsI_append, rowsI_append]
  simp only [rowsI, Int.toNat_natCast, List.map_take, List.map_drop, List.map_cons, List.map_nil]

theorem gt_under {l : List Int} {n : Int} (hn : n ∉ l) : (if firstFrom (gtP l n) 0 l.length < 0 then (l.length : Int) else firstFrom (gtP l n) 0 l.length) = under l n := by
  have key : ∀ (m : List Int) (i : Nat), l.drop i = m → (if firstFrom (gtP l n) i l.length < 0 then (l.length : Int) else firstFrom (gtP l n) i l.length) = i + (m.takeWhile fun x => decide (x < n)).length ∨ l.length < i := by
    intro m
    induction m with
    | nil =>
      intro i h
      have : l.length ≤ i := List.drop_eq_nil_iff.1 h
      rcases Nat.lt_or_ge l.length i with h2 | h2
      · exact .inr h2
      · left
        rw [firstFrom_ge _ this, if_pos (by omega)]
        simp; omega
    | cons x m ih =>
      intro i h
      have hi : i < l.length := by
        rcases Nat.lt_or_ge i l.length with h2 | h2
        · exact h2
        · rw [List.drop_eq_nil_of_le h2] at h; cases h
      rw [List.drop_eq_getElem_cons hi] at h
      obtain ⟨h1, h2⟩ := List.cons.inj h
      left
      rw [firstFrom_lt _ hi]
      have hg : gtP l n i = decide (n < x) := by simp [gtP, hi, h1]
      have hx : x ≠ n := fun e => hn (by rw [← e, ← h1]; exact List.getElem_mem hi)
      rw [hg]
      by_cases hlt : n < x
      · simp only [hlt, decide_true, if_true]
        rw [if_neg (by omega), List.takeWhile_cons_of_neg (by simp; omega)]; simp
      · simp only [hlt, decide_false, Bool.false_eq_true, if_false]
        rw [List.takeWhile_cons_of_pos (by simp; omega)]
        rcases ih (i + 1) h2 with h3 | h3
        · rw [h3]; simp; omega
        · omega
  rcases key l 0 rfl with h | h
  · rw [h, under]; omega
  · omega

set_option maxHeartbeats 1000000 in
theorem ev_NumAdd (l : List Int) (n : Int) (hl : Small l.length) : EV prog cfg 88 [.sl (rowsI l), .int .i64 n] [] = some (.sl (rowsI (numAdd l n)), []) := by
  (refine EV_k rfl func88 (by rw [f88]) (by rw [f88]; rfl) (by rw [f88]; rfl) ?_; rw [ntmps88]; (conv => lhs; whnf))
  (refine vuK_of (v_call rfl rfl (ev_Clone l hl) rfl rfl) ?_; (conv => lhs; whnf))
  (refine vuK_of (v_call rfl rfl (ev_NumIn l n hl) rfl rfl) ?_; (conv => lhs; whnf))
  ((repeat (first | refine br_t ?_ | refine br_f ?_ | refine br_not ?_)); first | refine br_lt (fun h1 => ?_) (fun h1 => ?_) | refine br_le (fun h1 => ?_) (fun h1 => ?_) | refine br_eq (fun h1 => ?_) (fun h1 => ?_) | refine br_b (fun h1 => ?_) (fun h1 => ?_)) <;> (conv => lhs; whnf)
  · rw [decide_eq_true_iff] at h1
    rw [numAdd, if_pos h1]
    (refine okK_of (by simp) ?_; (conv => lhs; whnf))
    rfl
  · rw [decide_eq_false_iff_not] at h1
    rw [numAdd, if_neg h1]
    (refine vuK_of (v_call rfl rfl (ev_IndexFunc_gt l n hl) rfl rfl) ?_; (conv => lhs; whnf))
    have hu := under_le l n
    have hg := gt_under h1
    ((repeat (first | refine br_t ?_ | refine br_f ?_ | refine br_not ?_)); first | refine br_lt (fun h2 => ?_) (fun h2 => ?_) | refine br_le (fun h2 => ?_) (fun h2 => ?_) | refine br_eq (fun h2 => ?_) (fun h2 => ?_) | refine br_b (fun h2 => ?_) (fun h2 => ?_)) <;> (conv => lhs; whnf)
    · rw [if_pos h2] at hg
      have hg : under l n = l.length := by omega
      rw [hg]
      (refine vuK_of (v_call rfl rfl (ev_Insert l (rowsI l).length l.length n (by rw [rowsI_length]) hl (Nat.le_refl _)) rfl rfl) ?_; (conv => lhs; whnf))
      refine okK_of ?_ ?_
      · simp [rowsI]
      · rfl
    · rw [if_neg (by omega)] at hg
      (refine vuK_of (v_call rfl rfl (ev_Insert l _ (under l n) n hg hl (under_le l n)) rfl rfl) ?_; (conv => lhs; whnf))
      refine okK_of ?_ ?_
      · have := under_le l n
        simp [rowsI]; omega
      · rfl
set_option maxHeartbeats 1000000 in
theorem ev_spec_NumAdd (l : List Int) (n : Int) (hl : Small l.length) : EV prog cfg 207 [.sl (rowsI l), .int .i64 n] [] = some (.sl (rowsI (numAdd l n)), []) := by
  (refine EV_k rfl func207 (by rw [f207]) (by rw [f207]; rfl) (by rw [f207]; rfl) ?_; rw [ntmps207]; (conv => lhs; whnf))
  (refine vuK_of (v_call rfl rfl (ev_spec_NumIn l n hl) rfl rfl) ?_; (conv => lhs; whnf))
  ((repeat (first | refine br_t ?_ | refine br_f ?_ | refine br_not ?_)); first | refine br_lt (fun h1 => ?_) (fun h1 => ?_) | refine br_le (fun h1 => ?_) (fun h1 => ?_) | refine br_eq (fun h1 => ?_) (fun h1 => ?_) | refine br_b (fun h1 => ?_) (fun h1 => ?_)) <;> (conv => lhs; whnf)
  · rw [decide_eq_true_iff] at h1
    rw [numAdd, if_pos h1]
    (refine vuK_of (v_app_I ([] ) ( l ) ( by simp only [List.length_nil]; omega) rfl rfl rfl rfl rfl rfl rfl rfl rfl rfl rfl) ?_; (conv => lhs; whnf))
    (refine okK_of (by simp) ?_; (conv => lhs; whnf))
    rfl
  · rw [decide_eq_false_iff_not] at h1
    rw [numAdd, if_neg h1]
    have hu := under_le l n
    refine loop_for (β := Unit) (fun z _ => ⟨[(0, .sl (rowsI l)), (1, .int .i64 n), (5, .int .i64 z)], []⟩) l.length (fun i _ => i ≤ under l n)
      (fun i _ => some (.sl (rowsI (l.take (under l n) ++ [n] ++ l.drop (under l n))), [])) () rfl rfl (Nat.zero_le _) ?_
    intro i _ hi hI ih
    refine round_of ?_
    (conv => lhs; whnf)
    ((repeat (first | refine br_t ?_ | refine br_f ?_ | refine br_not ?_)); first | refine br_lt (fun h5 => ?_) (fun h5 => ?_) | refine br_le (fun h5 => ?_) (fun h5 => ?_) | refine br_eq (fun h5 => ?_) (fun h5 => ?_) | refine br_b (fun h5 => ?_) (fun h5 => ?_)) <;> (conv => lhs; whnf) <;> rw [rowsI_length] at h5
    · have hlt : i < l.length := by omega
      obtain ⟨hs1, hs2⟩ := under_step l n i hlt hI
      (refine vuK_of (v_idx (rowsI_get hlt) rfl rfl rfl rfl) ?_; (conv => lhs; whnf))
      ((repeat (first | refine br_t ?_ | refine br_f ?_ | refine br_not ?_)); first | refine br_lt (fun h6 => ?_) (fun h6 => ?_) | refine br_le (fun h6 => ?_) (fun h6 => ?_) | refine br_eq (fun h6 => ?_) (fun h6 => ?_) | refine br_b (fun h6 => ?_) (fun h6 => ?_)) <;> (conv => lhs; whnf)
      · exact ih _ _ () rfl (wrap_succ hlt (by omega)) hlt (hs1 h6)
      · have hu2 := hs2 h6
        rw [hu2]
        refine vuK_of (v_slice_hi (rowLens_I l) (show i ≤ (rowsI l).length by rw [rowsI_length]; omega) (show (rowsI l).take i = rowsI (l.take i) by simp [rowsI]) rfl rfl rfl) ?_
        (conv => lhs; whnf)
        (refine vuK_of (v_app_I ([] ) ( l.take i ) ( by simp only [List.length_append, List.length_take, List.length_drop, List.length_cons, List.length_nil]; omega) rfl rfl rfl rfl rfl rfl rfl rfl rfl rfl rfl) ?_; (conv => lhs; whnf))
        (refine vuK_of (v_app_I ([] ++ l.take i ) ( [n] ) ( by simp only [List.length_append, List.length_take, List.length_drop, List.length_cons, List.length_nil]; omega) rfl rfl rfl rfl rfl rfl rfl rfl rfl rfl rfl) ?_; (conv => lhs; whnf))
        refine vuK_of (v_slice_lo (rowLens_I l) (show i ≤ (rowsI l).length by rw [rowsI_length]; omega) (show (rowsI l).drop i = rowsI (l.drop i) by simp [rowsI]) rfl rfl rfl) ?_
        (conv => lhs; whnf)
        (refine vuK_of (v_app_I ([] ++ l.take i ++ [n] ) ( l.drop i ) ( by simp only [List.length_append, List.length_take, List.length_drop, List.length_cons, List.length_nil]; omega) rfl rfl rfl rfl rfl rfl rfl rfl rfl rfl rfl) ?_; (conv => lhs; whnf))
        (refine okK_of (by simp) ?_; (conv => lhs; whnf))
        rfl
    · have hu2 : under l n = l.length := by omega
      have hil : i = l.length := by omega
      rw [hu2, ← hil]
      refine vuK_of (v_slice_hi (rowLens_I l) (show i ≤ (rowsI l).length by rw [rowsI_length]; omega) (show (rowsI l).take i = rowsI (l.take i) by simp [rowsI]) rfl rfl rfl) ?_
      (conv => lhs; whnf)
      (refine vuK_of (v_app_I ([] ) ( l.take i ) ( by simp only [List.length_append, List.length_take, List.length_drop, List.length_cons, List.length_nil]; omega) rfl rfl rfl rfl rfl rfl rfl rfl rfl rfl rfl) ?_; (conv => lhs; whnf))
      (refine vuK_of (v_app_I ([] ++ l.take i ) ( [n] ) ( by simp only [List.length_append, List.length_take, List.length_drop, List.length_cons, List.length_nil]; omega) rfl rfl rfl rfl rfl rfl rfl rfl rfl rfl rfl) ?_; (conv => lhs; whnf))
      refine vuK_of (v_slice_lo (rowLens_I l) (show i ≤ (rowsI l).length by rw [rowsI_length]; omega) (show (rowsI l).drop i = rowsI (l.drop i) by simp [rowsI]) rfl rfl rfl) ?_
      (conv => lhs; whnf)
      (refine vuK_of (v_app_I ([] ++ l.take i ++ [n] ) ( l.drop i ) ( by simp only [List.length_append, List.length_take, List.length_drop, List.length_cons, List.length_nil]; omega) rfl rfl rfl rfl rfl rfl rfl rfl rfl rfl rfl) ?_; (conv => lhs; whnf))
      (refine okK_of (by simp) ?_; (conv => lhs; whnf))
      rfl
end Go.Proofs.Tryz
