/- Whatever the variables are: the reference's way, for two things. -/
import Derived.Test.YtkbeimibpeofbaaGreatFnJ
set_option linter.unusedSimpArgs false
set_option linter.unusedVariables false
namespace Go.Proofs.Tryz
open Go Go.Sim Go.Braid

set_option maxHeartbeats 2000000 in
theorem ev_l21Some {s : List Sym} (hs : Small s.length) {ts : List (List Int)} (hw : worldB s (mdl ts) = true) (env : List Int) (he : Bits env) (c : List Lt) (hc : ClSmall c) (hg : Good s c) :
    EV prog cfg 109 [.sl (rowsS s), .agg [.sl (rowsII ts)], .agg [.sl (rowsL c)], .sl (rowsI env)] [] = some (.bool (someB s (mdl ts) env c), []) := by
  have hcl := hc.len
  (refine EV_k rfl func109 (by rw [f109]) (by rw [f109]; rfl) (by rw [f109]; rfl) ?_; rw [ntmps109]; (conv => lhs; whnf))
  refine loop_nat (fun z => ⟨[(0, .sl (rowsS s)), (3, .sl (rowsI env)), (5, .ptr (.loc 0 0) 0), (6, .ptr (.loc 0 1) 0), (9, .int .i64 z)], [(.loc 0 0, .box [.sl (rowsII ts)]), (.loc 0 1, .box [.sl (rowsL c)])]⟩) c.length
    (fun i => some (.bool ((c.drop i).any (soB s (mdl ts) env)), [])) rfl rfl ?_
  intro i hi ih
  refine round_of ?_
  (conv => lhs; whnf)
  ((repeat (first | refine br_t ?_ | refine br_f ?_ | refine br_not ?_)); first | refine br_lt (fun h5 => ?_) (fun h5 => ?_) | refine br_le (fun h5 => ?_) (fun h5 => ?_) | refine br_eq (fun h5 => ?_) (fun h5 => ?_) | refine br_b (fun h5 => ?_) (fun h5 => ?_)) <;> (conv => lhs; whnf) <;> rw [rowsL_length] at h5
  · have hlt : i < c.length := by omega
    have hm : c[i] ∈ c := List.getElem_mem hlt
    rw [List.drop_eq_getElem_cons hlt, List.any_cons]
    (refine vuK_of (v_idx (rowsL_get hlt) rfl rfl rfl rfl) ?_; (conv => lhs; whnf))
    (refine vuK_of (v_call rfl rfl (ev_l21Value hs hw env he c[i].l (hc.lit hm).1 (hg _ hm).1) rfl rfl) ?_; (conv => lhs; whnf))
    (refine vuK_of (v_call rfl rfl (ev_l21Value hs hw env he c[i].r (hc.lit hm).2 (hg _ hm).2) rfl rfl) ?_; (conv => lhs; whnf))
    have hso : (eqI (meansT s (mdl ts) env c[i].l) (meansT s (mdl ts) env c[i].r) == c[i].pos) = soB s (mdl ts) env c[i] := by rw [soB, eqI_eq]
    ((repeat (first | refine br_t ?_ | refine br_f ?_ | refine br_not ?_)); first | refine br_lt (fun h6 => ?_) (fun h6 => ?_) | refine br_le (fun h6 => ?_) (fun h6 => ?_) | refine br_eq (fun h6 => ?_) (fun h6 => ?_) | refine br_b (fun h6 => ?_) (fun h6 => ?_)) <;> (conv => lhs; whnf)
    · rw [← hso, h6]; rfl
    · rw [← hso, h6]
      exact (ih _ _ rfl (wrap_succ hlt (by omega)) hlt).trans rfl
  · rw [List.drop_eq_nil_of_le (by omega)]; rfl

theorem shl_one {k : Nat} (h : k ≤ 8) : IntKind.wrap .i64 (1 * 2 ^ (min ((k : Nat) : Int).toNat (IntKind.bits .i64))) = ((2 ^ k : Nat) : Int) := by
  have : k = 0 ∨ k = 1 ∨ k = 2 ∨ k = 3 ∨ k = 4 ∨ k = 5 ∨ k = 6 ∨ k = 7 ∨ k = 8 := by omega
  rcases this with rfl | rfl | rfl | rfl | rfl | rfl | rfl | rfl | rfl <;> decide
theorem bit_dig {n i : Nat} (hn : n < 1099511627776) (hi : i ≤ 8) :
    IntKind.wrap .i64 ((BitVec.ofInt (IntKind.bits .i64) ((n : Int).fdiv (2 ^ (min ((i : Nat) : Int).toNat (IntKind.bits .i64)))) &&& BitVec.ofInt (IntKind.bits .i64) 1).toNat : Int) = (dig 2 n i : Int) := by
  have h1 : (n : Int).fdiv (2 ^ (min ((i : Nat) : Int).toNat (IntKind.bits .i64))) = ((n / 2 ^ i : Nat) : Int) := by
    have e : min ((i : Nat) : Int).toNat (IntKind.bits .i64) = i := by show min i 64 = i; omega
    rw [e, Int.fdiv_eq_ediv_of_nonneg _ (Int.le_of_lt (Int.pow_pos (by omega))), Int.natCast_ediv]
    simp
  rw [h1]
  have h2 : n / 2 ^ i ≤ n := Nat.div_le_self _ _
  unfold dig
  generalize n / 2 ^ i = m at h2
  have h3 : (BitVec.ofInt (IntKind.bits .i64) (m : Int) &&& BitVec.ofInt (IntKind.bits .i64) 1).toNat = m % 2 := by
    rw [BitVec.toNat_and, BitVec.ofInt_natCast, BitVec.toNat_ofNat]
    show m % 2 ^ 64 &&& 1 = _
    rw [Nat.mod_eq_of_lt (by omega), Nat.and_one_is_mod]
  rw [h3, wrap_ok (by omega) (by omega)]

theorem digE_bits (vars : List Int) (N : Nat) : Bits (digE vars 2 N) := by
  refine ⟨envF_len _ _, fun x hx => ?_⟩
  obtain ⟨v, _, rfl⟩ := List.mem_map.1 hx
  split
  · have := dig_lt (z := 2) (by omega) N (vars.idxOf (v : Int))
    show ((dig 2 N (vars.idxOf (v : Int)) : Nat) : Int) = 0 ∨ ((dig 2 N (vars.idxOf (v : Int)) : Nat) : Int) = 1
    omega
  · exact .inl rfl

set_option maxHeartbeats 4000000 in
theorem ev_spec_Holds (s : List Sym) (hs : SigSmall s) (ts : List (List Int)) (ht : WdSmall ts) (c : List Lt) (hc : ClSmall c) : EV prog cfg 32 [.sl (rowsS s), .agg [.sl (rowsII ts)], .agg [.sl (rowsL c)]] [] = some (.bool (holdsB s ts c), []) := by
  have hcv := ev_spec_ClauseVars c hc
  (refine EV_k rfl func32 (by rw [f32]) (by rw [f32]; rfl) (by rw [f32]; rfl) ?_; rw [ntmps32]; (conv => lhs; whnf))
  (refine vuK_of (v_call rfl rfl (hcv) rfl rfl) ?_; (conv => lhs; whnf))
  (refine vuK_of (v_call rfl rfl (ev_spec_ModelOk s hs ts ht) rfl rfl) ?_; (conv => lhs; whnf))
  ((repeat (first | refine br_t ?_ | refine br_f ?_ | refine br_not ?_)); first | refine br_lt (fun h1 => ?_) (fun h1 => ?_) | refine br_le (fun h1 => ?_) (fun h1 => ?_) | refine br_eq (fun h1 => ?_) (fun h1 => ?_) | refine br_b (fun h1 => ?_) (fun h1 => ?_)) <;> (conv => lhs; whnf)
  · (refine vuK_of (v_call rfl rfl (ev_spec_ClauseOk s hs c hc) rfl rfl) ?_; (conv => lhs; whnf))
    ((repeat (first | refine br_t ?_ | refine br_f ?_ | refine br_not ?_)); first | refine br_lt (fun h2 => ?_) (fun h2 => ?_) | refine br_le (fun h2 => ?_) (fun h2 => ?_) | refine br_eq (fun h2 => ?_) (fun h2 => ?_) | refine br_b (fun h2 => ?_) (fun h2 => ?_)) <;> (conv => lhs; whnf)
    · ((repeat (first | refine br_t ?_ | refine br_f ?_ | refine br_not ?_)); first | refine br_lt (fun h3 => ?_) (fun h3 => ?_) | refine br_le (fun h3 => ?_) (fun h3 => ?_) | refine br_eq (fun h3 => ?_) (fun h3 => ?_) | refine br_b (fun h3 => ?_) (fun h3 => ?_)) <;> (conv => lhs; whnf) <;> rw [rowsI_length] at h3
      · refine res_bool (z := false) ?_
        rw [holdsB, decide_eq_false (show ¬ (varsC c).length ≤ 8 by omega), Bool.and_false, Bool.false_and]
      · obtain ⟨hg, hv⟩ := clause_ok h2
        rw [holdsB, h1, h2, decide_eq_true (show (varsC c).length ≤ 8 by omega), Bool.true_and, Bool.true_and, Bool.true_and, alwaysB, show (mdl ts).size.toNat = 2 from rfl]
        have hvl : (varsC c).length ≤ 8 := by omega
        generalize varsC c = vars at hv hvl ⊢
        refine loop_for (β := Nat → Int) (fun z g => ⟨[(0, .sl (rowsS s)), (4, .ptr (.loc 0 0) 0), (5, .ptr (.loc 0 1) 0), (7, .sl (rowsI vars)), (8, .own (.loc 0 2) 100), (9, .int .i64 z)], [(.loc 0 0, .box [.sl (rowsII ts)]), (.loc 0 1, .box [.sl (rowsL c)]), (.loc 0 2, .arr 3 1 (rowsI (envF vars g)) true)]⟩) (2 ^ vars.length)
          (fun _ _ => True) (fun N _ => some (.bool (allFrom (fun N => someB s (mdl ts) (digE vars 2 N) c) N (2 ^ vars.length)), [])) (fun i => (dig 2 0 i : Int)) rfl ?_ trivial ?_
        · rw [show envF vars (fun i => (dig 2 0 i : Int)) = List.replicate 100 0 by
            apply List.ext_getElem?
            intro v
            by_cases hv : v < 100
            · rw [List.getElem?_replicate, if_pos hv, envF, List.getElem?_map, List.getElem?_range hv]
              simp [dig]
            · rw [List.getElem?_eq_none (by rw [envF_len]; omega), List.getElem?_eq_none (by simp; omega)]]
          rfl
        have hp2 : 2 ^ vars.length ≤ 256 := Nat.pow_le_pow_right (n := 2) (by omega) hvl
        have hgetI : ∀ (g : Nat → Int) (i : Nat) (hi : i < vars.length), (rowsI (envF vars g))[(vars[i]).toNat]? = some [.int .i64 (g i)] := fun g i hi => by
          rw [rowsI, List.getElem?_map, envF_at hv g hi]; rfl
        have hlenI : ∀ (g : Nat → Int), (rowsI (envF vars g)).length = 100 := fun g => by rw [rowsI_length, envF_len]
        have hsetI : ∀ (g : Nat → Int) (i : Nat) (hi : i < vars.length) (x : Int), (rowsI (envF vars g)).set (vars[i]).toNat [.int .i64 x] = rowsI (envF vars (updG g i x)) := fun g i hi x => by
          rw [← envF_set hv g hi x]; simp only [rowsI, List.map_set]
        have hvm : ∀ (i : Nat) (hi : i < vars.length), 0 ≤ vars[i] ∧ vars[i] < (100 : Nat) := fun i hi => by
          have := hv.mem _ (List.getElem_mem hi); omega
        intro N g hN _ ih
        refine round_of ?_
        (conv => lhs; whnf)
        ((repeat (first | refine br_t ?_ | refine br_f ?_ | refine br_not ?_)); first | refine br_lt (fun h5 => ?_) (fun h5 => ?_) | refine br_le (fun h5 => ?_) (fun h5 => ?_) | refine br_eq (fun h5 => ?_) (fun h5 => ?_) | refine br_b (fun h5 => ?_) (fun h5 => ?_)) <;> (conv => lhs; whnf) <;> rw [rowsI_length, shl_one hvl] at h5
        · have hlt : N < 2 ^ vars.length := by omega
          rw [allFrom_lt _ hlt]
          have hsh := ev_l21Some hs.1 h1 (digE vars 2 N) (digE_bits vars N) c hc hg
          refine loop_for (β := Nat → Int) (fun z g => ⟨[(0, .sl (rowsS s)), (4, .ptr (.loc 0 0) 0), (5, .ptr (.loc 0 1) 0), (7, .sl (rowsI vars)), (8, .own (.loc 0 2) 100), (9, .int .i64 N), (10, .int .i64 z)], [(.loc 0 0, .box [.sl (rowsII ts)]), (.loc 0 1, .box [.sl (rowsL c)]), (.loc 0 2, .arr 3 1 (rowsI (envF vars g)) true)]⟩) vars.length
            (fun i g => ∀ j, j < i → g j = (dig 2 N j : Int)) (fun _ _ => some (.bool (someB s (mdl ts) (digE vars 2 N) c && allFrom (fun N => someB s (mdl ts) (digE vars 2 N) c) (N + 1) (2 ^ vars.length)), [])) g rfl rfl (fun j hj => absurd hj (by omega)) ?_
          intro i g hi hI jh
          refine round_of ?_
          (conv => lhs; whnf)
          ((repeat (first | refine br_t ?_ | refine br_f ?_ | refine br_not ?_)); first | refine br_lt (fun h6 => ?_) (fun h6 => ?_) | refine br_le (fun h6 => ?_) (fun h6 => ?_) | refine br_eq (fun h6 => ?_) (fun h6 => ?_) | refine br_b (fun h6 => ?_) (fun h6 => ?_)) <;> (conv => lhs; whnf) <;> rw [rowsI_length] at h6
          · have hlt : i < vars.length := by omega
            obtain ⟨hv0, hv1⟩ := hvm i hlt
            (refine vuK_of (v_idx (rowsI_get hlt) rfl rfl rfl rfl) ?_; (conv => lhs; whnf))
            refine vuK_of (v_idx_wr hv0 hv1 (hlenI g) rfl rfl rfl rfl rfl) ?_
            (conv => lhs; whnf)
            refine vuK_of (v_store_int (hgetI g i hlt) (hlenI g) (hsetI g i hlt _) rfl rfl rfl rfl rfl) ?_
            (conv => lhs; whnf)
            refine jh _ _ (updG g i (IntKind.wrap .i64 ((BitVec.ofInt (IntKind.bits .i64) ((N : Int).fdiv (2 ^ (min ((i : Nat) : Int).toNat (IntKind.bits .i64)))) &&& BitVec.ofInt (IntKind.bits .i64) 1).toNat : Int))) rfl (wrap_succ hlt (by omega)) hlt fun j hj => ?_
            unfold updG
            by_cases hji : j = i
            · rw [if_pos hji, bit_dig (by omega) (by omega), hji]
            · rw [if_neg hji]; exact hI j (by omega)
          · have henv : envF vars g = digE vars 2 N := envF_congr fun j hj => hI j (by omega)
            rw [henv]
            (refine vuK_of (v_call rfl rfl (hsh) rfl rfl) ?_; (conv => lhs; whnf))
            ((repeat (first | refine br_t ?_ | refine br_f ?_ | refine br_not ?_)); first | refine br_lt (fun h7 => ?_) (fun h7 => ?_) | refine br_le (fun h7 => ?_) (fun h7 => ?_) | refine br_eq (fun h7 => ?_) (fun h7 => ?_) | refine br_b (fun h7 => ?_) (fun h7 => ?_)) <;> (conv => lhs; whnf)
            · rw [h7, ← henv]
              exact (ih _ _ g rfl (wrap_succ hlt (by omega)) hlt trivial).trans rfl
            · rw [h7]; rfl
        · rw [allFrom_ge _ (by omega)]; rfl
    · refine res_bool (z := false) ?_
      rw [holdsB, h2, Bool.and_false, Bool.false_and, Bool.false_and]
  · refine res_bool (z := false) ?_
    rw [holdsB, h1, Bool.false_and, Bool.false_and, Bool.false_and]
end Go.Proofs.Tryz
