/- Worlds as they must be. -/
import Derived.Test.YtkbeimibpeofbaaGreatFnF
set_option linter.unusedSimpArgs false
set_option linter.unusedVariables false
namespace Go.Proofs.Tryz
open Go Go.Sim Go.Braid

theorem ev_placesOf (size k : Int) (h1 : 1 ≤ size) (h4 : size ≤ 4) (hk : 0 ≤ k) (hk3 : k ≤ 3) : EV prog cfg 141 [.int .i64 size, .int .i64 k] [] = some (.int .i64 (size ^ k.toNat), []) := by
  have hpow : ∀ i : Nat, i ≤ 3 → 0 ≤ size ^ i ∧ size ^ i ≤ 64 := by
    intro i hi
    have e1 : size = 1 ∨ size = 2 ∨ size = 3 ∨ size = 4 := by omega
    have e2 : i = 0 ∨ i = 1 ∨ i = 2 ∨ i = 3 := by omega
    rcases e1 with rfl | rfl | rfl | rfl <;> rcases e2 with rfl | rfl | rfl | rfl <;> decide
  (refine EV_k rfl func141 (by rw [f141]) (by rw [f141]; rfl) (by rw [f141]; rfl) ?_; rw [ntmps141]; (conv => lhs; whnf))
  refine loop_for (β := Int) (fun z m => ⟨[(0, .int .i64 size), (5, .int .i64 m), (6, .int .i64 k), (7, .int .i64 z)], []⟩) k.toNat (fun i m => m = size ^ i) (fun _ _ => some (.int .i64 (size ^ k.toNat), [])) 1 rfl rfl (Int.pow_zero _).symm ?_
  intro i m hi hI ih
  refine round_of ?_
  (conv => lhs; whnf)
  ((repeat (first | refine br_t ?_ | refine br_f ?_ | refine br_not ?_)); first | refine br_lt (fun h5 => ?_) (fun h5 => ?_) | refine br_le (fun h5 => ?_) (fun h5 => ?_) | refine br_eq (fun h5 => ?_) (fun h5 => ?_) | refine br_b (fun h5 => ?_) (fun h5 => ?_)) <;> (conv => lhs; whnf)
  · have hlt : i < k.toNat := by omega
    have hp := hpow (i + 1) (by omega)
    have hs : IntKind.wrap .i64 (m * size) = size ^ (i + 1) := by
      have hp1 := hp.1
      have hp2 := hp.2
      rw [Int.pow_succ] at hp1 hp2 ⊢
      rw [hI, wrap_ok (by omega) (by omega)]
    exact ih _ _ (IntKind.wrap .i64 (m * size)) rfl (wrap_ok (by omega) (by omega)) hlt hs
  · have : i = k.toNat := by omega
    exact res_int (by rw [hI, this])

/-! ### Blind to order and brackets -/
def ofT (t : List Int) (size a b : Int) : Int := t.getD (a + size * b).toNat 0
/-- A table of two arguments. -/
structure Sq (size : Int) (t : List Int) : Prop where
  lo : 1 ≤ size
  hi : size ≤ 4
  len : (t.length : Int) = size * size
  mem : ∀ x ∈ t, 0 ≤ x ∧ x < size
theorem sq_at {size : Int} {t : List Int} (h : Sq size t) {a b : Int} (ha : 0 ≤ a ∧ a < size) (hb : 0 ≤ b ∧ b < size) : 0 ≤ a + size * b ∧ a + size * b < t.length ∧ size * b ≤ 12 ∧ 0 ≤ size * b := by
  have h1 := h.lo; have h2 := h.hi; have h3 := h.len
  have : size = 1 ∨ size = 2 ∨ size = 3 ∨ size = 4 := by omega
  rcases this with rfl | rfl | rfl | rfl <;> omega
theorem ofT_get {size : Int} {t : List Int} (h : Sq size t) {a b : Int} (ha : 0 ≤ a ∧ a < size) (hb : 0 ≤ b ∧ b < size) : t[(a + size * b).toNat]? = some (ofT t size a b) ∧ 0 ≤ ofT t size a b ∧ ofT t size a b < size := by
  have h0 := sq_at h ha hb
  have hlt : (a + size * b).toNat < t.length := by omega
  have hx := h.mem _ (List.getElem_mem hlt)
  unfold ofT
  rw [List.getD_eq_getElem?_getD, List.getElem?_eq_getElem hlt]
  exact ⟨rfl, hx⟩

theorem ev_ind1 (size : Int) (t : List Int) (h : Sq size t) (a b : Int) (ha : 0 ≤ a ∧ a < size) (hb : 0 ≤ b ∧ b < size) :
    EV prog cfg 198 [.int .i64 a, .int .i64 b, .ptr (.out 0) 0, .ptr (.out 1) 0] [.box [.sl (rowsI t)], .box [.int .i64 size]] = some (.int .i64 (ofT t size a b), [.box [.sl (rowsI t)], .box [.int .i64 size]]) := by
  have h0 := sq_at h ha hb
  have h1 := ofT_get h ha hb
  have hlo := h.lo
  have hhi := h.hi
  have hw : IntKind.wrap .i64 (a + IntKind.wrap .i64 (size * b)) = a + size * b := by rw [wrap_ok (z := size * b) (by omega) (by omega), wrap_ok (by omega) (by omega)]
  have hg : (rowsI t)[(IntKind.wrap .i64 (a + IntKind.wrap .i64 (size * b))).toNat]? = some [.int .i64 (ofT t size a b)] := by rw [hw, rowsI, List.getElem?_map, h1.1]; rfl
  have hg0 : 0 ≤ IntKind.wrap .i64 (a + IntKind.wrap .i64 (size * b)) := by rw [hw]; exact h0.1
  (refine EV_k rfl func198 (by rw [f198]) (by rw [f198]; rfl) (by rw [f198]; rfl) ?_; rw [ntmps198]; (conv => lhs; whnf))
  (refine vuK_of (v_index_sl rfl rfl rfl hg hg0 rfl) ?_; (conv => lhs; whnf))
  rfl

def indC (t : List Int) (size : Int) (a b c : Nat) : Bool := decide (ofT t size a b = ofT t size b a) && decide (ofT t size (ofT t size a b) c = ofT t size a (ofT t size b c))
def indBB (t : List Int) (size : Int) (a b : Nat) : Bool := allFrom (indC t size a b) 0 size.toNat
def indA (t : List Int) (size : Int) (a : Nat) : Bool := allFrom (indBB t size a) 0 size.toNat
def indB (t : List Int) (size : Int) : Bool := allFrom (indA t size) 0 size.toNat

set_option maxHeartbeats 4000000 in
theorem ev_indifferent (size : Int) (t : List Int) (h : Sq size t) : EV prog cfg 144 [.int .i64 size, .sl (rowsI t)] [] = some (.bool (indB t size), []) := by
  have hlo := h.lo
  have hhi := h.hi
  (refine EV_k rfl func144 (by rw [f144]) (by rw [f144]; rfl) (by rw [f144]; rfl) ?_; rw [ntmps144]; (conv => lhs; whnf))
  refine loop_nat (fun z => ⟨[(2, .ptr (.loc 0 0) 0), (5, .clo 198 [.loc 0 1, .loc 0 0]), (10, .int .i64 size), (11, .int .i64 z)], [(.loc 0 0, .box [.int .i64 size]), (.loc 0 1, .box [.sl (rowsI t)])]⟩) size.toNat
    (fun a => some (.bool (allFrom (indA t size) a size.toNat), [])) rfl rfl ?_
  intro a ha iha
  refine round_of ?_
  (conv => lhs; whnf)
  ((repeat (first | refine br_t ?_ | refine br_f ?_ | refine br_not ?_)); first | refine br_lt (fun h5 => ?_) (fun h5 => ?_) | refine br_le (fun h5 => ?_) (fun h5 => ?_) | refine br_eq (fun h5 => ?_) (fun h5 => ?_) | refine br_b (fun h5 => ?_) (fun h5 => ?_)) <;> (conv => lhs; whnf)
  · have hlt : a < size.toNat := by omega
    rw [allFrom_lt _ hlt, indA]
    refine loop_nat (fun z => ⟨[(2, .ptr (.loc 0 0) 0), (5, .clo 198 [.loc 0 1, .loc 0 0]), (6, .int .i64 a), (10, .int .i64 size), (11, .int .i64 a), (14, .int .i64 size), (15, .int .i64 z)], [(.loc 0 0, .box [.int .i64 size]), (.loc 0 1, .box [.sl (rowsI t)])]⟩) size.toNat
      (fun b => some (.bool (allFrom (indBB t size a) b size.toNat && allFrom (indA t size) (a + 1) size.toNat), [])) rfl rfl ?_
    intro b hb ihb
    refine round_of ?_
    (conv => lhs; whnf)
    ((repeat (first | refine br_t ?_ | refine br_f ?_ | refine br_not ?_)); first | refine br_lt (fun h6 => ?_) (fun h6 => ?_) | refine br_le (fun h6 => ?_) (fun h6 => ?_) | refine br_eq (fun h6 => ?_) (fun h6 => ?_) | refine br_b (fun h6 => ?_) (fun h6 => ?_)) <;> (conv => lhs; whnf)
    · have hlb : b < size.toNat := by omega
      rw [allFrom_lt _ hlb, indBB]
      refine loop_nat (fun z => ⟨[(2, .ptr (.loc 0 0) 0), (5, .clo 198 [.loc 0 1, .loc 0 0]), (6, .int .i64 a), (7, .int .i64 b), (10, .int .i64 size), (11, .int .i64 a), (14, .int .i64 size), (15, .int .i64 b), (18, .int .i64 size), (19, .int .i64 z)], [(.loc 0 0, .box [.int .i64 size]), (.loc 0 1, .box [.sl (rowsI t)])]⟩) size.toNat
        (fun c => some (.bool (allFrom (indC t size a b) c size.toNat && allFrom (indBB t size a) (b + 1) size.toNat && allFrom (indA t size) (a + 1) size.toNat), [])) rfl rfl ?_
      intro c hc ihc
      refine round_of ?_
      (conv => lhs; whnf)
      ((repeat (first | refine br_t ?_ | refine br_f ?_ | refine br_not ?_)); first | refine br_lt (fun h7 => ?_) (fun h7 => ?_) | refine br_le (fun h7 => ?_) (fun h7 => ?_) | refine br_eq (fun h7 => ?_) (fun h7 => ?_) | refine br_b (fun h7 => ?_) (fun h7 => ?_)) <;> (conv => lhs; whnf)
      · have hlc : c < size.toNat := by omega
        have ka : (0 : Int) ≤ (a : Int) ∧ (a : Int) < size := by omega
        have kb : (0 : Int) ≤ (b : Int) ∧ (b : Int) < size := by omega
        have kc : (0 : Int) ≤ (c : Int) ∧ (c : Int) < size := by omega
        have kab := (ofT_get h ka kb).2
        have kbc := (ofT_get h kb kc).2
        rw [allFrom_lt _ hlc, indC]
        (refine vuK_of (v_call rfl rfl (ev_ind1 size t h a b ka kb) rfl rfl) ?_; (conv => lhs; whnf))
        (refine vuK_of (v_call rfl rfl (ev_ind1 size t h b a kb ka) rfl rfl) ?_; (conv => lhs; whnf))
        ((repeat (first | refine br_t ?_ | refine br_f ?_ | refine br_not ?_)); first | refine br_lt (fun h8 => ?_) (fun h8 => ?_) | refine br_le (fun h8 => ?_) (fun h8 => ?_) | refine br_eq (fun h8 => ?_) (fun h8 => ?_) | refine br_b (fun h8 => ?_) (fun h8 => ?_)) <;> (conv => lhs; whnf)
        · rw [decide_eq_true h8]
          (refine vuK_of (v_call rfl rfl (ev_ind1 size t h a b ka kb) rfl rfl) ?_; (conv => lhs; whnf))
          (refine vuK_of (v_call rfl rfl (ev_ind1 size t h (ofT t size a b) c kab kc) rfl rfl) ?_; (conv => lhs; whnf))
          (refine vuK_of (v_call rfl rfl (ev_ind1 size t h b c kb kc) rfl rfl) ?_; (conv => lhs; whnf))
          (refine vuK_of (v_call rfl rfl (ev_ind1 size t h a (ofT t size b c) ka kbc) rfl rfl) ?_; (conv => lhs; whnf))
          ((repeat (first | refine br_t ?_ | refine br_f ?_ | refine br_not ?_)); first | refine br_lt (fun h9 => ?_) (fun h9 => ?_) | refine br_le (fun h9 => ?_) (fun h9 => ?_) | refine br_eq (fun h9 => ?_) (fun h9 => ?_) | refine br_b (fun h9 => ?_) (fun h9 => ?_)) <;> (conv => lhs; whnf)
          · rw [decide_eq_true h9]
            exact (ihc _ _ rfl (wrap_succ hlc (by omega)) hlc).trans rfl
          · rw [decide_eq_false h9]; rfl
        · rw [decide_eq_false h8]; rfl
      · rw [allFrom_ge _ (by omega)]
        exact (ihb _ _ rfl (wrap_succ hlb (by omega)) hlb).trans rfl
    · rw [allFrom_ge _ (by omega)]
      exact (iha _ _ rfl (wrap_succ hlt (by omega)) hlt).trans rfl
  · rw [allFrom_ge _ (by omega)]
    rfl
end Go.Proofs.Tryz
