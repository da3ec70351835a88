/- FnExactHolds answers true. -/
import Derived.Test.YtkbeimibpeofbaaGreatFnM
set_option linter.unusedSimpArgs false
set_option linter.unusedVariables false
namespace Go.Proofs.Tryz
open Go Go.Sim Go.Braid

theorem sumN_mem {α : Type} (m : α → Nat) : ∀ {l : List α} {x : α}, x ∈ l → m x ≤ sumN m l
  | y :: l, x, h => by
    rw [sumN_cons]
    rcases List.mem_cons.1 h with rfl | h
    · omega
    · have := sumN_mem m h; omega
theorem nodesC_szC : ∀ (c : List Lt), nodesC c = 2 * c.length + sumN szL c
  | [] => rfl
  | l :: c => by
    rw [nodesC, sumN_cons, nodesC_szC c, List.length_cons, szL, szT, szT, nodes_kids, nodes_kids l.r]; omega
theorem sig_small {s : List Sym} {n : Int} (h0 : 0 ≤ cut n (s.length + sumN (fun y : Sym => y.name.size) s)) (hn : n ≤ 1048576) : SigSmall s := by
  have h := (cut_le h0).1
  refine ⟨by omega, fun y hy => ?_⟩
  have := sumN_mem (fun y : Sym => y.name.size) hy
  omega
theorem wd_small {ts : List (List Int)} {n : Int} (h0 : 0 ≤ cut n (szTs ts)) (hn : n ≤ 1048576) : WdSmall ts := by
  have h := (cut_le h0).1
  unfold szTs at h
  refine ⟨by omega, fun y hy => ?_⟩
  have := sumN_mem (fun t : List Int => t.length) hy
  omega
theorem cl_small {c : List Lt} {n : Int} (h0 : 0 ≤ cut n (szC c)) (hn : n ≤ 1048576) : ClSmall c := by
  have h := (cut_le h0).1
  unfold szC at h
  show nodesC c < _
  rw [nodesC_szC]; omega

set_option maxHeartbeats 4000000 in
theorem ev_FnExactHolds (s : List Sym) (ts : List (List Int)) (c : List Lt) (hs1 : MaxL s.length) (hs2 : ∀ y ∈ s, MaxL y.name.size) (ht1 : MaxL ts.length) (ht2 : ∀ t ∈ ts, MaxL t.length) (hc1 : MaxL c.length) (hc2 : ∀ l ∈ c, LtMax l) :
    EV prog cfg 5 [.sl (rowsS s), .agg [.sl (rowsII ts)], .agg [.sl (rowsL c)]] [] = some (.bool true, []) := by
  have z1 := ev_szSymS s 1048576 (by omega) (by omega) hs1 hs2
  (refine EV_k rfl func5 (by rw [f5]) (by rw [f5]; rfl) (by rw [f5]; rfl) ?_; rw [ntmps5]; (conv => lhs; whnf))
  (refine vuK_of (v_call rfl rfl (z1) rfl rfl) ?_; (conv => lhs; whnf))
  ((repeat (first | refine br_t ?_ | refine br_f ?_ | refine br_not ?_)); first | refine br_lt (fun h1 => ?_) (fun h1 => ?_) | refine br_le (fun h1 => ?_) (fun h1 => ?_) | refine br_eq (fun h1 => ?_) (fun h1 => ?_) | refine br_b (fun h1 => ?_) (fun h1 => ?_)) <;> (conv => lhs; whnf)
  · rfl
  · have hsm := sig_small h1 (by omega)
    have hle := cut_le h1
    generalize cut 1048576 (s.length + sumN (fun y : Sym => y.name.size) s) = n1 at h1 hle
    have hn1 : n1 ≤ 1048576 := by omega
    have z2 := ev_szModel ts n1 h1 hn1 ht1 ht2
    (refine vuK_of (v_call rfl rfl (z2) rfl rfl) ?_; (conv => lhs; whnf))
    ((repeat (first | refine br_t ?_ | refine br_f ?_ | refine br_not ?_)); first | refine br_lt (fun h2 => ?_) (fun h2 => ?_) | refine br_le (fun h2 => ?_) (fun h2 => ?_) | refine br_eq (fun h2 => ?_) (fun h2 => ?_) | refine br_b (fun h2 => ?_) (fun h2 => ?_)) <;> (conv => lhs; whnf)
    · rfl
    · have htm := wd_small h2 hn1
      have hle2 := cut_le h2
      generalize cut n1 (szTs ts) = n2 at h2 hle2
      have hn2 : n2 ≤ 1048576 := by omega
      have z3 := ev_szClause c n2 h2 hn2 hc1 hc2
      (refine vuK_of (v_call rfl rfl (z3) rfl rfl) ?_; (conv => lhs; whnf))
      ((repeat (first | refine br_t ?_ | refine br_f ?_ | refine br_not ?_)); first | refine br_lt (fun h3 => ?_) (fun h3 => ?_) | refine br_le (fun h3 => ?_) (fun h3 => ?_) | refine br_eq (fun h3 => ?_) (fun h3 => ?_) | refine br_b (fun h3 => ?_) (fun h3 => ?_)) <;> (conv => lhs; whnf)
      · rfl
      · have hcm := cl_small h3 hn2
        (repeat (any_goals (first | (refine vuK_of (v_call rfl rfl (ev_toSymS s hsm.1) rfl rfl) ?_; (conv => lhs; whnf)) | (refine vuK_of (v_call rfl rfl (ev_toModel ts htm) rfl rfl) ?_; (conv => lhs; whnf)) | (refine vuK_of (v_call rfl rfl (ev_toClause c hcm) rfl rfl) ?_; (conv => lhs; whnf)) | (refine vuK_of (v_call rfl rfl (ev_spec_Holds s hsm ts htm c hcm) rfl rfl) ?_; (conv => lhs; whnf)) | (refine vuK_of (v_call rfl rfl (ev_Holds s hsm ts htm c hcm) rfl rfl) ?_; (conv => lhs; whnf)) | (refine vuK_of (v_call rfl rfl (ev_eqSymS s hsm.1) rfl rfl) ?_; (conv => lhs; whnf)) | (refine vuK_of (v_call rfl rfl (ev_eqModel ts htm) rfl rfl) ?_; (conv => lhs; whnf)) | (refine vuK_of (v_call rfl rfl (ev_eqClause c hcm) rfl rfl) ?_; (conv => lhs; whnf)) | (((repeat (first | refine br_t ?_ | refine br_f ?_ | refine br_not ?_)); first | refine br_lt (fun hh => ?_) (fun hh => ?_) | refine br_le (fun hh => ?_) (fun hh => ?_) | refine br_eq (fun hh => ?_) (fun hh => ?_) | refine br_b (fun hh => ?_) (fun hh => ?_)) <;> (conv => lhs; whnf)))))
        all_goals first | rfl | (exfalso; simp at hh; done)
end Go.Proofs.Tryz
