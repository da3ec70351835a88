/- Larger worlds: the reference's way to see that one is right. -/
import Derived.Test.YtkbeimibpeofbaaGreatFnN
set_option linter.unusedSimpArgs false
set_option linter.unusedVariables false
namespace Go.Proofs.Tryz
open Go Go.Sim Go.Braid

theorem pow_small {size : Int} (h1 : 1 ≤ size) (h4 : size ≤ 4) {i : Nat} (hi : i ≤ 4) : 0 ≤ size ^ i ∧ size ^ i ≤ 256 := by
  have e1 : size = 1 ∨ size = 2 ∨ size = 3 ∨ size = 4 := by omega
  have e2 : i = 0 ∨ i = 1 ∨ i = 2 ∨ i = 3 ∨ i = 4 := by omega
  rcases e1 with rfl | rfl | rfl | rfl <;> rcases e2 with rfl | rfl | rfl | rfl | rfl <;> decide

theorem ev_l24Power (size k : Int) (h1 : 1 ≤ size) (h4 : size ≤ 4) (hk : 0 ≤ k) (hk4 : k ≤ 4) : EV prog cfg 121 [.int .i64 size, .int .i64 k] [] = some (.int .i64 (size ^ k.toNat), []) := by
  (refine EV_k rfl func121 (by rw [f121]) (by rw [f121]; rfl) (by rw [f121]; rfl) ?_; rw [ntmps121]; (conv => lhs; whnf))
  refine loop_for (β := Int) (fun z m => ⟨[(0, .int .i64 size), (1, .int .i64 k), (5, .int .i64 m), (6, .int .i64 z)], []⟩) k.toNat (fun i m => m = size ^ i) (fun _ _ => some (.int .i64 (size ^ k.toNat), [])) 1 rfl rfl (Int.pow_zero _).symm ?_
  intro i m hi hI ih
  refine round_of ?_
  (conv => lhs; whnf)
  ((repeat (first | refine br_t ?_ | refine br_f ?_ | refine br_not ?_)); first | refine br_lt (fun h5 => ?_) (fun h5 => ?_) | refine br_le (fun h5 => ?_) (fun h5 => ?_) | refine br_eq (fun h5 => ?_) (fun h5 => ?_) | refine br_b (fun h5 => ?_) (fun h5 => ?_)) <;> (conv => lhs; whnf)
  · have hlt : i < k.toNat := by omega
    have hp := pow_small h1 h4 (i := i + 1) (by omega)
    have hs : IntKind.wrap .i64 (m * size) = size ^ (i + 1) := by
      have hp1 := hp.1
      have hp2 := hp.2
      rw [Int.pow_succ] at hp1 hp2 ⊢
      rw [hI, wrap_ok (by omega) (by omega)]
    exact ih _ _ (IntKind.wrap .i64 (m * size)) rfl (wrap_ok (by omega) (by omega)) hlt hs
  · have : i = k.toNat := by omega
    exact res_int (by rw [hI, this])

theorem ev_l24Two (w : Wd) (f a b : Int) (t : List Int) (hf : 0 ≤ f) (ht : w.tables[f.toNat]? = some t) (h : Sq w.size t) (ha : 0 ≤ a ∧ a < w.size) (hb : 0 ≤ b ∧ b < w.size) :
    EV prog cfg 199 [.agg (cellsW w), .int .i64 f, .int .i64 a, .int .i64 b] [] = some (.int .i64 (ofT t w.size a b), []) := by
  have h0 := sq_at h ha hb
  have h1 := ofT_get h ha hb
  have hlo := h.lo
  have hhi := h.hi
  have hw : IntKind.wrap .i64 (a + IntKind.wrap .i64 (w.size * b)) = a + w.size * b := by rw [wrap_ok (z := w.size * b) (by omega) (by omega), wrap_ok (by omega) (by omega)]
  have hg : (rowsI t)[(IntKind.wrap .i64 (a + IntKind.wrap .i64 (w.size * b))).toNat]? = some [.int .i64 (ofT t w.size a b)] := by rw [hw, rowsI, List.getElem?_map, h1.1]; rfl
  have hg0 : 0 ≤ IntKind.wrap .i64 (a + IntKind.wrap .i64 (w.size * b)) := by rw [hw]; exact h0.1
  have hft : (rowsII w.tables)[f.toNat]? = some [.sl (rowsI t)] := by rw [rowsII, List.getElem?_map, ht]; rfl
  (refine EV_k rfl func199 (by rw [f199]) (by rw [f199]; rfl) (by rw [f199]; rfl) ?_; rw [ntmps199]; (conv => lhs; whnf))
  (refine vuK_of (v_index_sl rfl rfl rfl hft hf rfl) ?_; (conv => lhs; whnf))
  (refine vuK_of (v_index_sl rfl rfl rfl hg hg0 rfl) ?_; (conv => lhs; whnf))
  rfl

set_option maxHeartbeats 4000000 in
theorem ev_l24Blind (w : Wd) (f : Int) (t : List Int) (hf : 0 ≤ f) (ht : w.tables[f.toNat]? = some t) (h : Sq w.size t) :
    EV prog cfg 145 [.agg (cellsW w), .int .i64 f] [] = some (.bool (indB t w.size), []) := by
  have hlo := h.lo
  have hhi := h.hi
  (refine EV_k rfl func145 (by rw [f145]) (by rw [f145]; rfl) (by rw [f145]; rfl) ?_; rw [ntmps145]; (conv => lhs; whnf))
  refine loop_nat (fun z => ⟨[(1, .int .i64 f), (2, .ptr (.loc 0 0) 0), (5, .int .i64 z)], [(.loc 0 0, .box (cellsW w))]⟩) w.size.toNat
    (fun a => some (.bool (allFrom (indA t w.size) a w.size.toNat), [])) rfl rfl ?_
  intro a ha iha
  refine round_of ?_
  (conv => lhs; whnf)
  ((repeat (first | refine br_t ?_ | refine br_f ?_ | refine br_not ?_)); first | refine br_lt (fun h5 => ?_) (fun h5 => ?_) | refine br_le (fun h5 => ?_) (fun h5 => ?_) | refine br_eq (fun h5 => ?_) (fun h5 => ?_) | refine br_b (fun h5 => ?_) (fun h5 => ?_)) <;> (conv => lhs; whnf)
  · have hlt : a < w.size.toNat := by omega
    rw [allFrom_lt _ hlt, indA]
    refine loop_nat (fun z => ⟨[(1, .int .i64 f), (2, .ptr (.loc 0 0) 0), (5, .int .i64 a), (6, .int .i64 z)], [(.loc 0 0, .box (cellsW w))]⟩) w.size.toNat
      (fun b => some (.bool (allFrom (indBB t w.size a) b w.size.toNat && allFrom (indA t w.size) (a + 1) w.size.toNat), [])) rfl rfl ?_
    intro b hb ihb
    refine round_of ?_
    (conv => lhs; whnf)
    ((repeat (first | refine br_t ?_ | refine br_f ?_ | refine br_not ?_)); first | refine br_lt (fun h6 => ?_) (fun h6 => ?_) | refine br_le (fun h6 => ?_) (fun h6 => ?_) | refine br_eq (fun h6 => ?_) (fun h6 => ?_) | refine br_b (fun h6 => ?_) (fun h6 => ?_)) <;> (conv => lhs; whnf)
    · have hlb : b < w.size.toNat := by omega
      have ka : (0 : Int) ≤ (a : Int) ∧ (a : Int) < w.size := by omega
      have kb : (0 : Int) ≤ (b : Int) ∧ (b : Int) < w.size := by omega
      have kab := (ofT_get h ka kb).2
      rw [allFrom_lt _ hlb]
      (refine vuK_of (v_call rfl rfl (ev_l24Two w f a b t hf ht h ka kb) rfl rfl) ?_; (conv => lhs; whnf))
      (refine vuK_of (v_call rfl rfl (ev_l24Two w f b a t hf ht h kb ka) rfl rfl) ?_; (conv => lhs; whnf))
      ((repeat (first | refine br_t ?_ | refine br_f ?_ | refine br_not ?_)); first | refine br_lt (fun h8 => ?_) (fun h8 => ?_) | refine br_le (fun h8 => ?_) (fun h8 => ?_) | refine br_eq (fun h8 => ?_) (fun h8 => ?_) | refine br_b (fun h8 => ?_) (fun h8 => ?_)) <;> (conv => lhs; whnf)
      · rw [indBB, show indC t w.size a b = fun c : Nat => decide (ofT t w.size (ofT t w.size a b) c = ofT t w.size a (ofT t w.size b c)) by
          funext c; rw [indC, decide_eq_true h8, Bool.true_and]]
        refine loop_nat (fun z => ⟨[(1, .int .i64 f), (2, .ptr (.loc 0 0) 0), (5, .int .i64 a), (6, .int .i64 b), (7, .int .i64 z)], [(.loc 0 0, .box (cellsW w))]⟩) w.size.toNat
          (fun c => some (.bool (allFrom (fun c : Nat => decide (ofT t w.size (ofT t w.size a b) c = ofT t w.size a (ofT t w.size b c))) c w.size.toNat && allFrom (indBB t w.size a) (b + 1) w.size.toNat && allFrom (indA t w.size) (a + 1) w.size.toNat), [])) rfl rfl ?_
        intro c hc ihc
        refine round_of ?_
        (conv => lhs; whnf)
        ((repeat (first | refine br_t ?_ | refine br_f ?_ | refine br_not ?_)); first | refine br_lt (fun h7 => ?_) (fun h7 => ?_) | refine br_le (fun h7 => ?_) (fun h7 => ?_) | refine br_eq (fun h7 => ?_) (fun h7 => ?_) | refine br_b (fun h7 => ?_) (fun h7 => ?_)) <;> (conv => lhs; whnf)
        · have hlc : c < w.size.toNat := by omega
          have kc : (0 : Int) ≤ (c : Int) ∧ (c : Int) < w.size := by omega
          have kbc := (ofT_get h kb kc).2
          rw [allFrom_lt _ hlc]
          (refine vuK_of (v_call rfl rfl (ev_l24Two w f a b t hf ht h ka kb) rfl rfl) ?_; (conv => lhs; whnf))
          (refine vuK_of (v_call rfl rfl (ev_l24Two w f (ofT t w.size a b) c t hf ht h kab kc) rfl rfl) ?_; (conv => lhs; whnf))
          (refine vuK_of (v_call rfl rfl (ev_l24Two w f b c t hf ht h kb kc) rfl rfl) ?_; (conv => lhs; whnf))
          (refine vuK_of (v_call rfl rfl (ev_l24Two w f a (ofT t w.size b c) t hf ht h ka kbc) rfl rfl) ?_; (conv => lhs; whnf))
          ((repeat (first | refine br_t ?_ | refine br_f ?_ | refine br_not ?_)); first | refine br_lt (fun h9 => ?_) (fun h9 => ?_) | refine br_le (fun h9 => ?_) (fun h9 => ?_) | refine br_eq (fun h9 => ?_) (fun h9 => ?_) | refine br_b (fun h9 => ?_) (fun h9 => ?_)) <;> (conv => lhs; whnf)
          · rw [decide_eq_true h9]
            exact (ihc _ _ rfl (wrap_succ hlc (by omega)) hlc).trans rfl
          · rw [decide_eq_false h9]; rfl
        · rw [allFrom_ge _ (by omega)]
          exact (ihb _ _ rfl (wrap_succ hlb (by omega)) hlb).trans rfl
      · refine res_bool (z := false) ?_
        rw [indBB, allFrom_lt _ (show 0 < w.size.toNat by omega), indC, decide_eq_false h8, Bool.false_and, Bool.false_and, Bool.false_and, Bool.false_and]
    · rw [allFrom_ge _ (by omega)]
      exact (iha _ _ rfl (wrap_succ hlt (by omega)) hlt).trans rfl
  · rw [allFrom_ge _ (by omega)]
    rfl

set_option maxHeartbeats 4000000 in
theorem ev_spec_WorldOk (s : List Sym) (hs : SigSmall s) (w : Wd) (hw : WdSmall w.tables) : EV prog cfg 63 [.sl (rowsS s), .agg (cellsW w)] [] = some (.bool (worldB s w), []) := by
  have hsl := hs.1
  have hwl := hw.1
  (refine EV_k rfl func63 (by rw [f63]) (by rw [f63]; rfl) (by rw [f63]; rfl) ?_; rw [ntmps63]; (conv => lhs; whnf))
  (refine vuK_of (v_call rfl rfl (ev_spec_SigOk s hs) rfl rfl) ?_; (conv => lhs; whnf))
  ((repeat (first | refine br_t ?_ | refine br_f ?_ | refine br_not ?_)); first | refine br_lt (fun h1 => ?_) (fun h1 => ?_) | refine br_le (fun h1 => ?_) (fun h1 => ?_) | refine br_eq (fun h1 => ?_) (fun h1 => ?_) | refine br_b (fun h1 => ?_) (fun h1 => ?_)) <;> (conv => lhs; whnf)
  · (refine vuK_of (v_call rfl rfl (ev_l1In _ _ _) rfl rfl) ?_; (conv => lhs; whnf))
    ((repeat (first | refine br_t ?_ | refine br_f ?_ | refine br_not ?_)); first | refine br_lt (fun h2 => ?_) (fun h2 => ?_) | refine br_le (fun h2 => ?_) (fun h2 => ?_) | refine br_eq (fun h2 => ?_) (fun h2 => ?_) | refine br_b (fun h2 => ?_) (fun h2 => ?_)) <;> (conv => lhs; whnf)
    · ((repeat (first | refine br_t ?_ | refine br_f ?_ | refine br_not ?_)); first | refine br_lt (fun h3 => ?_) (fun h3 => ?_) | refine br_le (fun h3 => ?_) (fun h3 => ?_) | refine br_eq (fun h3 => ?_) (fun h3 => ?_) | refine br_b (fun h3 => ?_) (fun h3 => ?_)) <;> (conv => lhs; whnf) <;> rw [rowsII_length, rowsS_length] at h3
      · have hl : w.tables.length = s.length := by omega
        have h2' : 1 ≤ w.size ∧ w.size ≤ 4 := by simpa using h2
        rw [worldB, h1, h2, decide_eq_true hl]
        refine loop_nat (fun z => ⟨[(0, .sl (rowsS s)), (3, .ptr (.loc 0 0) 0), (5, .int .i64 z)], [(.loc 0 0, .box (cellsW w))]⟩) s.length
          (fun i => some (.bool (allFrom (tabP s w) i s.length), [])) rfl rfl ?_
        intro i hi ih
        refine round_of ?_
        (conv => lhs; whnf)
        ((repeat (first | refine br_t ?_ | refine br_f ?_ | refine br_not ?_)); first | refine br_lt (fun h5 => ?_) (fun h5 => ?_) | refine br_le (fun h5 => ?_) (fun h5 => ?_) | refine br_eq (fun h5 => ?_) (fun h5 => ?_) | refine br_b (fun h5 => ?_) (fun h5 => ?_)) <;> (conv => lhs; whnf) <;> rw [rowsS_length] at h5
        · have hlt : i < s.length := by omega
          have hlt2 : i < w.tables.length := by omega
          have har := sig_arity h1 hlt
          have htl := hw.2 _ (List.getElem_mem hlt2)
          have hg : tabP s w i = tabB w.size s[i] w.tables[i] := by simp [tabP, hlt, hlt2]
          have htt : w.tables[((i : Nat) : Int).toNat]? = some w.tables[i] := List.getElem?_eq_getElem hlt2
          rw [allFrom_lt _ hlt, hg, tabB]
          generalize hy : s[i] = y at har
          generalize ht : w.tables[i] = t at htl htt
          have hrs : (rowsS s)[i]? = some (cellsS y) := by rw [rowsS_get hlt, hy]
          have hrt : (rowsII w.tables)[i]? = some [.sl (rowsI t)] := by rw [rowsII_get hlt2, ht]
          (refine vuK_of (v_idx (hrt) rfl rfl rfl rfl) ?_; (conv => lhs; whnf))
          (refine vuK_of (v_idx (hrs) rfl rfl rfl rfl) ?_; (conv => lhs; whnf))
          (refine vuK_of (v_call rfl rfl (ev_l24Power w.size y.arity h2'.1 h2'.2 har.1 (by omega)) rfl rfl) ?_; (conv => lhs; whnf))
          ((repeat (first | refine br_t ?_ | refine br_f ?_ | refine br_not ?_)); first | refine br_lt (fun h6 => ?_) (fun h6 => ?_) | refine br_le (fun h6 => ?_) (fun h6 => ?_) | refine br_eq (fun h6 => ?_) (fun h6 => ?_) | refine br_b (fun h6 => ?_) (fun h6 => ?_)) <;> (conv => lhs; whnf) <;> rw [rowsI_length] at h6
          · rw [decide_eq_true h6, Bool.true_and]
            refine loop_for (β := Unit) (fun z _ => ⟨[(0, .sl (rowsS s)), (3, .ptr (.loc 0 0) 0), (5, .int .i64 i), (6, .int .i64 z)], [(.loc 0 0, .box (cellsW w))]⟩) t.length (fun j _ => ∀ x ∈ t.take j, inB w.size x = true)
              (fun j _ => some (.bool ((t.drop j).all (inB w.size) && (!y.ac || indB t w.size) && allFrom (tabP s w) (i + 1) s.length), [])) () rfl rfl (by simp) ?_
            intro j _ hj hJ jh
            refine round_of ?_
            (conv => lhs; whnf)
            (refine vuK_of (v_idx (hrt) rfl rfl rfl rfl) ?_; (conv => lhs; whnf))
            ((repeat (first | refine br_t ?_ | refine br_f ?_ | refine br_not ?_)); first | refine br_lt (fun h7 => ?_) (fun h7 => ?_) | refine br_le (fun h7 => ?_) (fun h7 => ?_) | refine br_eq (fun h7 => ?_) (fun h7 => ?_) | refine br_b (fun h7 => ?_) (fun h7 => ?_)) <;> (conv => lhs; whnf) <;> rw [rowsI_length] at h7
            · have hlj : j < t.length := by omega
              rw [List.drop_eq_getElem_cons hlj, List.all_cons]
              (refine vuK_of (v_idx (hrt) rfl rfl rfl rfl) ?_; (conv => lhs; whnf))
              (refine vuK_of (v_idx (rowsI_get hlj) rfl rfl rfl rfl) ?_; (conv => lhs; whnf))
              (refine vuK_of (v_call rfl rfl (ev_l1In _ _ _) rfl rfl) ?_; (conv => lhs; whnf))
              have hd : decide (0 ≤ t[j] ∧ t[j] ≤ IntKind.wrap .i64 (w.size - 1)) = inB w.size t[j] := by rw [inB, decide_eq_decide, wrap_ok (by omega) (by omega)]; omega
              rw [hd]
              ((repeat (first | refine br_t ?_ | refine br_f ?_ | refine br_not ?_)); first | refine br_lt (fun h8 => ?_) (fun h8 => ?_) | refine br_le (fun h8 => ?_) (fun h8 => ?_) | refine br_eq (fun h8 => ?_) (fun h8 => ?_) | refine br_b (fun h8 => ?_) (fun h8 => ?_)) <;> (conv => lhs; whnf)
              · rw [h8]
                refine (jh _ _ () rfl (wrap_succ hlj (by omega)) hlj (fun x hx => ?_)).trans rfl
                rw [List.take_succ_eq_append_getElem hlj] at hx
                rcases List.mem_append.1 hx with hx | hx
                · exact hJ x hx
                · rw [List.mem_singleton.1 hx]; exact h8
              · rw [h8]; rfl
            · have hall : ∀ x ∈ t, inB w.size x = true := by rwa [List.take_of_length_le (by omega)] at hJ
              rw [List.drop_eq_nil_of_le (by omega), List.all_nil, Bool.true_and]
              (refine vuK_of (v_idx (hrs) rfl rfl rfl rfl) ?_; (conv => lhs; whnf))
              ((repeat (first | refine br_t ?_ | refine br_f ?_ | refine br_not ?_)); first | refine br_lt (fun h8 => ?_) (fun h8 => ?_) | refine br_le (fun h8 => ?_) (fun h8 => ?_) | refine br_eq (fun h8 => ?_) (fun h8 => ?_) | refine br_b (fun h8 => ?_) (fun h8 => ?_)) <;> (conv => lhs; whnf)
              · have h2a : y.arity = 2 := har.2.2 h8
                have hsq : Sq w.size t := ⟨h2'.1, h2'.2, by rw [h6, h2a]; show w.size ^ 2 = _; rw [Int.pow_succ, Int.pow_succ, Int.pow_zero, Int.one_mul], fun x hx => by simpa [inB] using hall x hx⟩
                (refine vuK_of (v_call rfl rfl (ev_l24Blind w i t (by omega) htt hsq) rfl rfl) ?_; (conv => lhs; whnf))
                ((repeat (first | refine br_t ?_ | refine br_f ?_ | refine br_not ?_)); first | refine br_lt (fun h9 => ?_) (fun h9 => ?_) | refine br_le (fun h9 => ?_) (fun h9 => ?_) | refine br_eq (fun h9 => ?_) (fun h9 => ?_) | refine br_b (fun h9 => ?_) (fun h9 => ?_)) <;> (conv => lhs; whnf)
                · rw [h9, h8]
                  exact (ih _ _ rfl (wrap_succ hlt (by omega)) hlt).trans rfl
                · rw [h9, h8]; rfl
              · rw [h8]
                exact (ih _ _ rfl (wrap_succ hlt (by omega)) hlt).trans rfl
          · rw [decide_eq_false h6]; rfl
        · rw [allFrom_ge _ (by omega)]; rfl
      · refine res_bool (z := false) ?_
        rw [worldB, decide_eq_false (show ¬ w.tables.length = s.length by omega), Bool.and_false, Bool.false_and]
    · refine res_bool (z := false) ?_
      rw [worldB, h2, Bool.and_false, Bool.false_and, Bool.false_and]
  · refine res_bool (z := false) ?_
    rw [worldB, h1, Bool.false_and, Bool.false_and, Bool.false_and]
end Go.Proofs.Tryz
