/- FnExactTrue answers true. -/
import Derived.Test.YtkbeimibpeofbaaGreatFnP
set_option linter.unusedSimpArgs false
set_option linter.unusedVariables false
namespace Go.Proofs.Tryz
open Go Go.Sim Go.Braid

def trueB (s : List Sym) (w : Wd) (c : List Lt) : Bool := worldB s w && clauseB s c && decide ((varsC c).length ≤ 4) && alwaysB s w c (varsC c)

set_option maxHeartbeats 2000000 in
theorem ev_True (s : List Sym) (hs : SigSmall s) (w : Wd) (ht : WdSmall w.tables) (c : List Lt) (hc : ClSmall c) : EV prog cfg 20 [.sl (rowsS s), .agg (cellsW w), .agg [.sl (rowsL c)]] [] = some (.bool (trueB s w c), []) := by
  have hcv := ev_ClauseVars c hc
  have hal := fun hw hg => ev_always hs.1 (w := w) hw c hc hg
  rw [varsC_eq] at hcv hal
  (refine EV_k rfl func20 (by rw [f20]) (by rw [f20]; rfl) (by rw [f20]; rfl) ?_; rw [ntmps20]; (conv => lhs; whnf))
  (refine vuK_of (v_call rfl rfl (ev_WorldOk s hs w ht) rfl rfl) ?_; (conv => lhs; whnf))
  ((repeat (first | refine br_t ?_ | refine br_f ?_ | refine br_not ?_)); first | refine br_lt (fun h1 => ?_) (fun h1 => ?_) | refine br_le (fun h1 => ?_) (fun h1 => ?_) | refine br_eq (fun h1 => ?_) (fun h1 => ?_) | refine br_b (fun h1 => ?_) (fun h1 => ?_)) <;> (conv => lhs; whnf)
  · (refine vuK_of (v_call rfl rfl (ev_ClauseOk s hs c hc) rfl rfl) ?_; (conv => lhs; whnf))
    ((repeat (first | refine br_t ?_ | refine br_f ?_ | refine br_not ?_)); first | refine br_lt (fun h2 => ?_) (fun h2 => ?_) | refine br_le (fun h2 => ?_) (fun h2 => ?_) | refine br_eq (fun h2 => ?_) (fun h2 => ?_) | refine br_b (fun h2 => ?_) (fun h2 => ?_)) <;> (conv => lhs; whnf)
    · (refine vuK_of (v_call rfl rfl (hcv) rfl rfl) ?_; (conv => lhs; whnf))
      ((repeat (first | refine br_t ?_ | refine br_f ?_ | refine br_not ?_)); first | refine br_lt (fun h3 => ?_) (fun h3 => ?_) | refine br_le (fun h3 => ?_) (fun h3 => ?_) | refine br_eq (fun h3 => ?_) (fun h3 => ?_) | refine br_b (fun h3 => ?_) (fun h3 => ?_)) <;> (conv => lhs; whnf)
      · rw [rowsI_length] at h3
        obtain ⟨hg, hv⟩ := clause_ok h2
        (refine vuK_of (v_call rfl rfl (hal h1 hg hv (by omega)) rfl rfl) ?_; (conv => lhs; whnf))
        refine res_bool ?_
        rw [trueB, h1, h2, decide_eq_true (show (varsC c).length ≤ 4 by omega)]; rfl
      · rw [rowsI_length] at h3
        refine res_bool (z := false) ?_
        rw [trueB, decide_eq_false (show ¬ (varsC c).length ≤ 4 by omega), Bool.and_false, Bool.false_and]
    · refine res_bool (z := false) ?_
      rw [trueB, h2, Bool.and_false, Bool.false_and, Bool.false_and]
  · refine res_bool (z := false) ?_
    rw [trueB, h1, Bool.false_and, Bool.false_and, Bool.false_and]

set_option maxHeartbeats 4000000 in
theorem ev_spec_True (s : List Sym) (hs : SigSmall s) (sz : Int) (tabs : List (List Int)) (ht : WdSmall tabs) (c : List Lt) (hc : ClSmall c) :
    EV prog cfg 44 [.sl (rowsS s), .agg (cellsW ⟨sz, tabs⟩), .agg [.sl (rowsL c)]] [] = some (.bool (trueB s ⟨sz, tabs⟩ c), []) := by
  have hcv := ev_spec_ClauseVars c hc
  (refine EV_k rfl func44 (by rw [f44]) (by rw [f44]; rfl) (by rw [f44]; rfl) ?_; rw [ntmps44]; (conv => lhs; whnf))
  (refine vuK_of (v_call rfl rfl (hcv) rfl rfl) ?_; (conv => lhs; whnf))
  (refine vuK_of (v_call rfl rfl (ev_spec_WorldOk s hs ⟨sz, tabs⟩ ht) rfl rfl) ?_; (conv => lhs; whnf))
  ((repeat (first | refine br_t ?_ | refine br_f ?_ | refine br_not ?_)); first | refine br_lt (fun h1 => ?_) (fun h1 => ?_) | refine br_le (fun h1 => ?_) (fun h1 => ?_) | refine br_eq (fun h1 => ?_) (fun h1 => ?_) | refine br_b (fun h1 => ?_) (fun h1 => ?_)) <;> (conv => lhs; whnf)
  · (refine vuK_of (v_call rfl rfl (ev_spec_ClauseOk s hs c hc) rfl rfl) ?_; (conv => lhs; whnf))
    ((repeat (first | refine br_t ?_ | refine br_f ?_ | refine br_not ?_)); first | refine br_lt (fun h2 => ?_) (fun h2 => ?_) | refine br_le (fun h2 => ?_) (fun h2 => ?_) | refine br_eq (fun h2 => ?_) (fun h2 => ?_) | refine br_b (fun h2 => ?_) (fun h2 => ?_)) <;> (conv => lhs; whnf)
    · ((repeat (first | refine br_t ?_ | refine br_f ?_ | refine br_not ?_)); first | refine br_lt (fun h3 => ?_) (fun h3 => ?_) | refine br_le (fun h3 => ?_) (fun h3 => ?_) | refine br_eq (fun h3 => ?_) (fun h3 => ?_) | refine br_b (fun h3 => ?_) (fun h3 => ?_)) <;> (conv => lhs; whnf) <;> rw [rowsI_length] at h3
      · refine res_bool (z := false) ?_
        rw [trueB, decide_eq_false (show ¬ (varsC c).length ≤ 4 by omega), Bool.and_false, Bool.false_and]
      · obtain ⟨hg, hv⟩ := clause_ok h2
        have hsz : 1 ≤ sz ∧ sz ≤ 4 := by
          have h := h1
          simp only [worldB, Bool.and_eq_true, decide_eq_true_eq] at h; exact h.1.1.2
        rw [trueB, h1, h2, decide_eq_true (show (varsC c).length ≤ 4 by omega), Bool.true_and, Bool.true_and, Bool.true_and, alwaysB, show (Wd.mk sz tabs).size.toNat = sz.toNat from rfl]
        have hvl : (varsC c).length ≤ 4 := by omega
        generalize varsC c = vars at hv hvl ⊢
        obtain ⟨z, rfl⟩ : ∃ z : Nat, sz = z := ⟨sz.toNat, by omega⟩
        have hz1 : 0 < z := by omega
        have hz4 : z ≤ 4 := by omega
        have hne : ((z : Nat) : Int) ≠ 0 := by omega
        have hpw := ev_l24Power (z : Int) ((rowsI vars).length : Int) hsz.1 hsz.2 (by omega) (by rw [rowsI_length]; omega)
        rw [show ((z : Int) ^ (((rowsI vars).length : Nat) : Int).toNat) = ((z ^ vars.length : Nat) : Int) by rw [rowsI_length, Int.toNat_natCast, Int.natCast_pow]] at hpw
        have hp2 : z ^ vars.length ≤ 256 := by
          have := (pow_small hsz.1 hsz.2 (i := vars.length) hvl).2
          rw [← Int.natCast_pow] at this
          omega
        rw [show ((z : Nat) : Int).toNat = z from rfl]
        (refine vuK_of (v_call rfl rfl (hpw) rfl rfl) ?_; (conv => lhs; whnf))
        refine loop_nat (fun n => ⟨[(0, .sl (rowsS s)), (4, .ptr (.loc 0 0) 0), (5, .ptr (.loc 0 1) 0), (7, .sl (rowsI vars)), (8, .int .i64 ((z ^ vars.length : Nat) : Int)), (9, .int .i64 n)], [(.loc 0 0, .box (cellsW ⟨z, tabs⟩)), (.loc 0 1, .box [.sl (rowsL c)])]⟩) (z ^ vars.length)
          (fun N => some (.bool (allFrom (fun N => someB s ⟨z, tabs⟩ (digE vars z N) c) N (z ^ vars.length)), [])) rfl rfl ?_
        have hgetI : ∀ (g : Nat → Int) (i : Nat) (hi : i < vars.length), (rowsI (envF vars g))[(vars[i]).toNat]? = some [.int .i64 (g i)] := fun g i hi => by
          rw [rowsI, List.getElem?_map, envF_at hv g hi]; rfl
        have hlenI : ∀ (g : Nat → Int), (rowsI (envF vars g)).length = 100 := fun g => by rw [rowsI_length, envF_len]
        have hsetI : ∀ (g : Nat → Int) (i : Nat) (hi : i < vars.length) (x : Int), (rowsI (envF vars g)).set (vars[i]).toNat [.int .i64 x] = rowsI (envF vars (updG g i x)) := fun g i hi x => by
          rw [← envF_set hv g hi x]; simp only [rowsI, List.map_set]
        have hvm : ∀ (i : Nat) (hi : i < vars.length), 0 ≤ vars[i] ∧ vars[i] < (100 : Nat) := fun i hi => by
          have := hv.mem _ (List.getElem_mem hi); omega
        intro N hN ih
        refine round_of ?_
        (conv => lhs; whnf)
        ((repeat (first | refine br_t ?_ | refine br_f ?_ | refine br_not ?_)); first | refine br_lt (fun h5 => ?_) (fun h5 => ?_) | refine br_le (fun h5 => ?_) (fun h5 => ?_) | refine br_eq (fun h5 => ?_) (fun h5 => ?_) | refine br_b (fun h5 => ?_) (fun h5 => ?_)) <;> (conv => lhs; whnf)
        · have hlt : N < z ^ vars.length := by omega
          rw [allFrom_lt _ hlt]
          have hsh := ev_l24Some hs.1 h1 (digE vars z N) (by unfold digE; rw [envF_len]; omega) c hc hg
          refine loop_for (β := (Nat → Int) × Int) (fun n p => ⟨[(0, .sl (rowsS s)), (4, .ptr (.loc 0 0) 0), (5, .ptr (.loc 0 1) 0), (7, .sl (rowsI vars)), (8, .int .i64 ((z ^ vars.length : Nat) : Int)), (9, .int .i64 N), (10, .own (.loc 0 2) 100), (11, .int .i64 p.2), (12, .int .i64 n)], [(.loc 0 0, .box (cellsW ⟨z, tabs⟩)), (.loc 0 1, .box [.sl (rowsL c)]), (.loc 0 2, .arr 3 1 (rowsI (envF vars p.1)) true)]⟩) vars.length
            (fun i p => (∀ j, j < i → p.1 j = (dig z N j : Int)) ∧ p.2 = ((N / z ^ i : Nat) : Int)) (fun _ _ => some (.bool (someB s ⟨z, tabs⟩ (digE vars z N) c && allFrom (fun N => someB s ⟨z, tabs⟩ (digE vars z N) c) (N + 1) (z ^ vars.length)), [])) (fun _ => 0, (N : Int)) rfl ?_ ⟨fun j hj => absurd hj (by omega), by simp⟩ ?_
          · rw [show envF vars (fun _ => (0 : Int)) = List.replicate 100 0 by
              apply List.ext_getElem?
              intro v
              by_cases hv : v < 100
              · rw [List.getElem?_replicate, if_pos hv, envF, List.getElem?_map, List.getElem?_range hv]
                simp
              · rw [List.getElem?_eq_none (by rw [envF_len]; omega), List.getElem?_eq_none (by simp; omega)]]
            rfl
          rintro i ⟨g, left⟩ hi ⟨hI, hL⟩ jh
          simp only at hI hL
          subst hL
          have hNl : N / z ^ i ≤ N := Nat.div_le_self _ _
          refine round_of ?_
          (conv => lhs; whnf)
          ((repeat (first | refine br_t ?_ | refine br_f ?_ | refine br_not ?_)); first | refine br_lt (fun h6 => ?_) (fun h6 => ?_) | refine br_le (fun h6 => ?_) (fun h6 => ?_) | refine br_eq (fun h6 => ?_) (fun h6 => ?_) | refine br_b (fun h6 => ?_) (fun h6 => ?_)) <;> (conv => lhs; whnf) <;> rw [rowsI_length] at h6
          · have hlt : i < vars.length := by omega
            obtain ⟨hv0, hv1⟩ := hvm i hlt
            (refine vuK_of (v_idx (rowsI_get hlt) rfl rfl rfl rfl) ?_; (conv => lhs; whnf))
            refine vuK_of (v_rem rfl rfl hne) ?_
            (conv => lhs; whnf)
            refine vuK_of (v_idx_wr hv0 hv1 (hlenI g) rfl rfl rfl rfl rfl) ?_
            (conv => lhs; whnf)
            refine vuK_of (v_store_int (hgetI g i hlt) (hlenI g) (hsetI g i hlt _) rfl rfl rfl rfl rfl) ?_
            (conv => lhs; whnf)
            refine vuK_of (v_quo rfl rfl hne) ?_
            (conv => lhs; whnf)
            refine jh _ _ (updG g i (((N / z ^ i : Nat) : Int).tmod (z : Int)), IntKind.wrap .i64 (((N / z ^ i : Nat) : Int).tdiv (z : Int))) rfl (wrap_succ hlt (by omega)) hlt ⟨fun j hj => ?_, ?_⟩
            · show updG g i _ j = _
              unfold updG
              by_cases hji : j = i
              · rw [if_pos hji, hji, dig, Int.tmod_eq_emod_of_nonneg (Int.natCast_nonneg _), Int.natCast_emod]
              · rw [if_neg hji]; exact hI j (by omega)
            · show IntKind.wrap .i64 (((N / z ^ i : Nat) : Int).tdiv (z : Int)) = _
              rw [Int.tdiv_eq_ediv_of_nonneg (Int.natCast_nonneg _), ← Int.natCast_ediv, Nat.div_div_eq_div_mul, ← Nat.pow_succ]
              have hq : N / z ^ (i + 1) ≤ N := Nat.div_le_self _ _
              generalize N / z ^ (i + 1) = q at hq ⊢
              exact wrap_ok (by omega) (by omega)
          · have henv : envF vars g = digE vars z N := envF_congr fun j hj => hI j (by omega)
            rw [henv]
            (refine vuK_of (v_call rfl rfl (hsh) rfl rfl) ?_; (conv => lhs; whnf))
            ((repeat (first | refine br_t ?_ | refine br_f ?_ | refine br_not ?_)); first | refine br_lt (fun h7 => ?_) (fun h7 => ?_) | refine br_le (fun h7 => ?_) (fun h7 => ?_) | refine br_eq (fun h7 => ?_) (fun h7 => ?_) | refine br_b (fun h7 => ?_) (fun h7 => ?_)) <;> (conv => lhs; whnf)
            · rw [h7]
              exact (ih _ _ rfl (wrap_succ hlt (by omega)) hlt).trans rfl
            · rw [h7]; rfl
        · rw [allFrom_ge _ (by omega)]; rfl
    · refine res_bool (z := false) ?_
      rw [trueB, h2, Bool.and_false, Bool.false_and, Bool.false_and]
  · refine res_bool (z := false) ?_
    rw [trueB, h1, Bool.false_and, Bool.false_and, Bool.false_and]

theorem ev_szWorld (w : Wd) (left : Int) (h0 : 0 ≤ left) (h1 : left ≤ 1048576) (hl : MaxL w.tables.length) (hm : ∀ x ∈ w.tables, MaxL x.length) : EV prog cfg 43 [.agg (cellsW w), .int .i64 left] [] = some (.int .i64 (cut left (szTs w.tables)), []) := by
  (refine EV_k rfl func43 (by rw [f43]) (by rw [f43]; rfl) (by rw [f43]; rfl) ?_; rw [ntmps43]; (conv => lhs; whnf))
  (refine vuK_of (v_call rfl rfl (ev_szIntSS w.tables left h0 h1 hl hm) rfl rfl) ?_; (conv => lhs; whnf))
  ((repeat (first | refine br_t ?_ | refine br_f ?_ | refine br_not ?_)); first | refine br_lt (fun h => ?_) (fun h => ?_) | refine br_le (fun h => ?_) (fun h => ?_) | refine br_eq (fun h => ?_) (fun h => ?_) | refine br_b (fun h => ?_) (fun h => ?_)) <;> (conv => lhs; whnf)
  · exact res_int (neg_cut h)
  · rfl
theorem ev_toWorld (w : Wd) (ht : WdSmall w.tables) : EV prog cfg 45 [.agg (cellsW w)] [] = some (.agg (cellsW w), []) := by
  (refine EV_k rfl func45 (by rw [f45]) (by rw [f45]; rfl) (by rw [f45]; rfl) ?_; rw [ntmps45]; (conv => lhs; whnf))
  (refine vuK_of (v_call rfl rfl (ev_toIntSS w.tables ht.1 ht.2) rfl rfl) ?_; (conv => lhs; whnf))
  rfl
theorem ev_eqWorld (w : Wd) (ht : WdSmall w.tables) : EV prog cfg 46 [.agg (cellsW w), .agg (cellsW w)] [] = some (.bool true, []) := by
  (refine EV_k rfl func46 (by rw [f46]) (by rw [f46]; rfl) (by rw [f46]; rfl) ?_; rw [ntmps46]; (conv => lhs; whnf))
  (repeat (any_goals (first | (refine vuK_of (v_call rfl rfl (ev_eqIntSS w.tables ht.1 ht.2) rfl rfl) ?_; (conv => lhs; whnf)) | (((repeat (first | refine br_t ?_ | refine br_f ?_ | refine br_not ?_)); first | refine br_lt (fun hh => ?_) (fun hh => ?_) | refine br_le (fun hh => ?_) (fun hh => ?_) | refine br_eq (fun hh => ?_) (fun hh => ?_) | refine br_b (fun hh => ?_) (fun hh => ?_)) <;> (conv => lhs; whnf)))))
  all_goals first | rfl | (exfalso; simp at *; done)

set_option maxHeartbeats 4000000 in
theorem ev_FnExactTrue (s : List Sym) (w : Wd) (c : List Lt) (hs1 : MaxL s.length) (hs2 : ∀ y ∈ s, MaxL y.name.size) (ht1 : MaxL w.tables.length) (ht2 : ∀ t ∈ w.tables, MaxL t.length) (hc1 : MaxL c.length) (hc2 : ∀ l ∈ c, LtMax l) :
    EV prog cfg 7 [.sl (rowsS s), .agg (cellsW w), .agg [.sl (rowsL c)]] [] = some (.bool true, []) := by
  obtain ⟨sz, tabs⟩ := w
  have ht1 : MaxL tabs.length := ht1
  have ht2 : ∀ t ∈ tabs, MaxL t.length := ht2
  have z1 := ev_szSymS s 1048576 (by omega) (by omega) hs1 hs2
  (refine EV_k rfl func7 (by rw [f7]) (by rw [f7]; rfl) (by rw [f7]; rfl) ?_; rw [ntmps7]; (conv => lhs; whnf))
  (refine vuK_of (v_call rfl rfl (z1) rfl rfl) ?_; (conv => lhs; whnf))
  ((repeat (first | refine br_t ?_ | refine br_f ?_ | refine br_not ?_)); first | refine br_lt (fun h1 => ?_) (fun h1 => ?_) | refine br_le (fun h1 => ?_) (fun h1 => ?_) | refine br_eq (fun h1 => ?_) (fun h1 => ?_) | refine br_b (fun h1 => ?_) (fun h1 => ?_)) <;> (conv => lhs; whnf)
  · rfl
  · have hsm := sig_small h1 (by omega)
    have hle := cut_le h1
    generalize cut 1048576 (s.length + sumN (fun y : Sym => y.name.size) s) = n1 at h1 hle
    have hn1 : n1 ≤ 1048576 := by omega
    have z2 := ev_szWorld ⟨sz, tabs⟩ n1 h1 hn1 ht1 ht2
    (refine vuK_of (v_call rfl rfl (z2) rfl rfl) ?_; (conv => lhs; whnf))
    ((repeat (first | refine br_t ?_ | refine br_f ?_ | refine br_not ?_)); first | refine br_lt (fun h2 => ?_) (fun h2 => ?_) | refine br_le (fun h2 => ?_) (fun h2 => ?_) | refine br_eq (fun h2 => ?_) (fun h2 => ?_) | refine br_b (fun h2 => ?_) (fun h2 => ?_)) <;> (conv => lhs; whnf)
    · rfl
    · have htm : WdSmall tabs := wd_small h2 hn1
      have hle2 := cut_le h2
      generalize cut n1 (szTs (Wd.mk sz tabs).tables) = n2 at h2 hle2
      have hn2 : n2 ≤ 1048576 := by omega
      have z3 := ev_szClause c n2 h2 hn2 hc1 hc2
      (refine vuK_of (v_call rfl rfl (z3) rfl rfl) ?_; (conv => lhs; whnf))
      ((repeat (first | refine br_t ?_ | refine br_f ?_ | refine br_not ?_)); first | refine br_lt (fun h3 => ?_) (fun h3 => ?_) | refine br_le (fun h3 => ?_) (fun h3 => ?_) | refine br_eq (fun h3 => ?_) (fun h3 => ?_) | refine br_b (fun h3 => ?_) (fun h3 => ?_)) <;> (conv => lhs; whnf)
      · rfl
      · have hcm := cl_small h3 hn2
        (repeat (any_goals (first | (refine vuK_of (v_call rfl rfl (ev_toSymS s hsm.1) rfl rfl) ?_; (conv => lhs; whnf)) | (refine vuK_of (v_call rfl rfl (ev_toWorld ⟨sz, tabs⟩ htm) rfl rfl) ?_; (conv => lhs; whnf)) | (refine vuK_of (v_call rfl rfl (ev_toClause c hcm) rfl rfl) ?_; (conv => lhs; whnf)) | (refine vuK_of (v_call rfl rfl (ev_spec_True s hsm sz tabs htm c hcm) rfl rfl) ?_; (conv => lhs; whnf)) | (refine vuK_of (v_call rfl rfl (ev_True s hsm ⟨sz, tabs⟩ htm c hcm) rfl rfl) ?_; (conv => lhs; whnf)) | (refine vuK_of (v_call rfl rfl (ev_eqSymS s hsm.1) rfl rfl) ?_; (conv => lhs; whnf)) | (refine vuK_of (v_call rfl rfl (ev_eqWorld ⟨sz, tabs⟩ htm) rfl rfl) ?_; (conv => lhs; whnf)) | (refine vuK_of (v_call rfl rfl (ev_eqClause c hcm) rfl rfl) ?_; (conv => lhs; whnf)) | (((repeat (first | refine br_t ?_ | refine br_f ?_ | refine br_not ?_)); first | refine br_lt (fun hh => ?_) (fun hh => ?_) | refine br_le (fun hh => ?_) (fun hh => ?_) | refine br_eq (fun hh => ?_) (fun hh => ?_) | refine br_b (fun hh => ?_) (fun hh => ?_)) <;> (conv => lhs; whnf)))))
        all_goals first | rfl | (exfalso; simp at hh; done)
end Go.Proofs.Tryz
