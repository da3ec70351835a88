/- Holds; the reference's way. -/
import Derived.Test.YtkbeimibpeofbaaGreatFnI
import Derived.Test.YtkbeimibpeofbaaGreatPureA
set_option linter.unusedSimpArgs false
set_option linter.unusedVariables false
namespace Go.Proofs.Tryz
open Go Go.Sim Go.Braid

theorem clause_ok {s : List Sym} {c : List Lt} (h : clauseB s c = true) : Good s c ∧ VarsOk (varsC c) := ⟨clause_good h, asc_nodup (varsC_asc c), clause_vars h⟩
def holdsB (s : List Sym) (ts : List (List Int)) (c : List Lt) : Bool := worldB s (mdl ts) && clauseB s c && decide ((varsC c).length ≤ 8) && alwaysB s (mdl ts) c (varsC c)

set_option maxHeartbeats 2000000 in
theorem ev_Holds (s : List Sym) (hs : SigSmall s) (ts : List (List Int)) (ht : WdSmall ts) (c : List Lt) (hc : ClSmall c) : EV prog cfg 28 [.sl (rowsS s), .agg [.sl (rowsII ts)], .agg [.sl (rowsL c)]] [] = some (.bool (holdsB s ts c), []) := by
  have hcv := ev_ClauseVars c hc
  have hal := fun hw hg => ev_always hs.1 (w := mdl ts) hw c hc hg
  rw [varsC_eq] at hcv hal
  (refine EV_k rfl func28 (by rw [f28]) (by rw [f28]; rfl) (by rw [f28]; rfl) ?_; rw [ntmps28]; (conv => lhs; whnf))
  (refine vuK_of (v_call rfl rfl (ev_ModelOk s hs ts ht) rfl rfl) ?_; (conv => lhs; whnf))
  ((repeat (first | refine br_t ?_ | refine br_f ?_ | refine br_not ?_)); first | refine br_lt (fun h1 => ?_) (fun h1 => ?_) | refine br_le (fun h1 => ?_) (fun h1 => ?_) | refine br_eq (fun h1 => ?_) (fun h1 => ?_) | refine br_b (fun h1 => ?_) (fun h1 => ?_)) <;> (conv => lhs; whnf)
  · (refine vuK_of (v_call rfl rfl (ev_ClauseOk s hs c hc) rfl rfl) ?_; (conv => lhs; whnf))
    ((repeat (first | refine br_t ?_ | refine br_f ?_ | refine br_not ?_)); first | refine br_lt (fun h2 => ?_) (fun h2 => ?_) | refine br_le (fun h2 => ?_) (fun h2 => ?_) | refine br_eq (fun h2 => ?_) (fun h2 => ?_) | refine br_b (fun h2 => ?_) (fun h2 => ?_)) <;> (conv => lhs; whnf)
    · (refine vuK_of (v_call rfl rfl (hcv) rfl rfl) ?_; (conv => lhs; whnf))
      ((repeat (first | refine br_t ?_ | refine br_f ?_ | refine br_not ?_)); first | refine br_lt (fun h3 => ?_) (fun h3 => ?_) | refine br_le (fun h3 => ?_) (fun h3 => ?_) | refine br_eq (fun h3 => ?_) (fun h3 => ?_) | refine br_b (fun h3 => ?_) (fun h3 => ?_)) <;> (conv => lhs; whnf)
      · rw [rowsI_length] at h3
        obtain ⟨hg, hv⟩ := clause_ok h2
        (refine vuK_of (v_call rfl rfl (ev_asWorld ts) rfl rfl) ?_; (conv => lhs; whnf))
        (refine vuK_of (v_call rfl rfl (hal h1 hg hv (by omega)) rfl rfl) ?_; (conv => lhs; whnf))
        refine res_bool ?_
        rw [holdsB, h1, h2, decide_eq_true (show (varsC c).length ≤ 8 by omega)]; rfl
      · rw [rowsI_length] at h3
        refine res_bool (z := false) ?_
        rw [holdsB, decide_eq_false (show ¬ (varsC c).length ≤ 8 by omega), Bool.and_false, Bool.false_and]
    · refine res_bool (z := false) ?_
      rw [holdsB, h2, Bool.and_false, Bool.false_and, Bool.false_and]
  · refine res_bool (z := false) ?_
    rw [holdsB, h1, Bool.false_and, Bool.false_and, Bool.false_and]

theorem ev_l1Bit (b : Bool) : EV prog cfg 189 [.bool b] [] = some (.int .i64 (if b = true then 1 else 0), []) := by
  cases b
  · (refine EV_k rfl func189 (by rw [f189]) (by rw [f189]; rfl) (by rw [f189]; rfl) ?_; rw [ntmps189]; (conv => lhs; whnf))
    rfl
  · (refine EV_k rfl func189 (by rw [f189]) (by rw [f189]; rfl) (by rw [f189]; rfl) ?_; rw [ntmps189]; (conv => lhs; whnf))
    rfl
theorem ev_l1Min (a b : Int) : EV prog cfg 81 [.int .i64 a, .int .i64 b] [] = some (.int .i64 (if a < b then a else b), []) := by
  (refine EV_k rfl func81 (by rw [f81]) (by rw [f81]; rfl) (by rw [f81]; rfl) ?_; rw [ntmps81]; (conv => lhs; whnf))
  ((repeat (first | refine br_t ?_ | refine br_f ?_ | refine br_not ?_)); first | refine br_lt (fun h => ?_) (fun h => ?_) | refine br_le (fun h => ?_) (fun h => ?_) | refine br_eq (fun h => ?_) (fun h => ?_) | refine br_b (fun h => ?_) (fun h => ?_)) <;> (conv => lhs; whnf)
  · exact res_int (if_pos h).symm
  · exact res_int (if_neg (show ¬ a < b by omega)).symm
theorem ev_l1Max (a b : Int) : EV prog cfg 72 [.int .i64 a, .int .i64 b] [] = some (.int .i64 (if b < a then a else b), []) := by
  (refine EV_k rfl func72 (by rw [f72]) (by rw [f72]; rfl) (by rw [f72]; rfl) ?_; rw [ntmps72]; (conv => lhs; whnf))
  ((repeat (first | refine br_t ?_ | refine br_f ?_ | refine br_not ?_)); first | refine br_lt (fun h => ?_) (fun h => ?_) | refine br_le (fun h => ?_) (fun h => ?_) | refine br_eq (fun h => ?_) (fun h => ?_) | refine br_b (fun h => ?_) (fun h => ?_)) <;> (conv => lhs; whnf)
  · exact res_int (if_pos h).symm
  · exact res_int (if_neg (show ¬ b < a by omega)).symm

/-- A loop that counts from a on. -/
theorem loop_at {ρ : Type} {step : St → Option (Ex × St)} {norm : St → St} {k : Ex → St → Option ρ} {β : Type} (inv : Int → β → St) (a n : Nat) (I : Nat → β → Prop) (post : Nat → β → Option ρ) {st : St} {r : Option ρ} (b0 : β) (hr : r = post a b0) (h0 : norm st = inv ((a : Nat) : Int) b0) (ha : a ≤ n) (hI0 : I a b0)
    (round : ∀ i b, a ≤ i → i ≤ n → I i b → (∀ st' z b', norm st' = inv z b' → z = ((i + 1 : Nat) : Int) → i + 1 ≤ n → I (i + 1) b' → loopK (LOOP step norm st') k = post (i + 1) b') →
      loopK (LOOPN step norm (inv (i : Int) b)) k = post i b) : loopK (LOOP step norm st) k = r := by
  subst hr
  refine head_of h0 ?_
  have key : ∀ (p : Nat × β), (a ≤ p.1 ∧ p.1 ≤ n) ∧ I p.1 p.2 → loopK (LOOPN step norm (inv (p.1 : Int) p.2)) k = post p.1 p.2 :=
    loop_ind (β := Nat × β) (fun p => inv (p.1 : Int) p.2) (fun p => (a ≤ p.1 ∧ p.1 ≤ n) ∧ I p.1 p.2) (fun p => n - p.1) (fun p => post p.1 p.2) fun p hp ih => by
      refine round p.1 p.2 hp.1.1 hp.1.2 hp.2 fun st' z b' h1 h2 h3 h4 => ?_
      refine head_of (by rw [h1, h2]) ?_
      exact ih (p.1 + 1, b') ⟨⟨by have := hp.1.1; show a ≤ p.1 + 1; omega, h3⟩, h4⟩ (by show n - (p.1 + 1) < n - p.1; omega)
  exact key (a, b0) ⟨⟨Nat.le_refl _, ha⟩, hI0⟩

theorem and_one {x : Int} (h : x = 0 ∨ x = 1) : eqI (IntKind.wrap .i64 ((BitVec.ofInt (IntKind.bits .i64) x &&& BitVec.ofInt (IntKind.bits .i64) 1).toNat : Int)) 1 = decide (x = 1) := by
  rw [eqI_eq]
  rcases h with rfl | rfl <;> decide
theorem or_bits {i : Nat} {a x : Int} (hi : i ≤ 2) (ha : 0 ≤ a ∧ a < 2 ^ i) (hx : x = 0 ∨ x = 1) :
    IntKind.wrap .i64 ((BitVec.ofInt (IntKind.bits .i64) a ||| BitVec.ofInt (IntKind.bits .i64) (IntKind.wrap .i64 (x * 2 ^ (min ((i : Int)).toNat (IntKind.bits .i64))))).toNat : Int) = a + 2 ^ i * x := by
  have e1 : i = 0 ∨ i = 1 ∨ i = 2 := by omega
  rcases e1 with rfl | rfl | rfl
  · have : a = 0 := by have := ha.2; simp at this; omega
    subst this
    rcases hx with rfl | rfl <;> decide
  · have : a = 0 ∨ a = 1 := by have := ha.2; simp at this; omega
    rcases this with rfl | rfl <;> rcases hx with rfl | rfl <;> decide
  · have : a = 0 ∨ a = 1 ∨ a = 2 ∨ a = 3 := by have := ha.2; simp at this; omega
    rcases this with rfl | rfl | rfl | rfl <;> rcases hx with rfl | rfl <;> decide

/-- Each choice is 0 or 1. -/
def Bits (env : List Int) : Prop := env.length = 100 ∧ ∀ x ∈ env, x = 0 ∨ x = 1

set_option maxHeartbeats 4000000 in
theorem ev_l21Value {s : List Sym} (hs : Small s.length) {ts : List (List Int)} (hw : worldB s (mdl ts) = true) (env : List Int) (he : Bits env) : ∀ (t : Tm), Small (nodes t) → formB s t = true →
    EV prog cfg 130 [.sl (rowsS s), .agg [.sl (rowsII ts)], .agg (cellsT t), .sl (rowsI env)] [] = some (.int .i64 (meansT s (mdl ts) env t), []) := by
  intro t
  induction t using Tm.ind with
  | h f v ks ihk =>
    intro ha hf
    generalize hA : Tm.mk f v ks = t at ha hf ⊢
    have hk : t.kids = ks := by rw [← hA]; rfl
    rw [← hk] at ihk
    have hkl := nodes_len t
    have hel := he.1
    rw [meansT_eq]
    (refine EV_k rfl func130 (by rw [f130]) (by rw [f130]; rfl) (by rw [f130]; rfl) ?_; rw [ntmps130]; (conv => lhs; whnf))
    ((repeat (first | refine br_t ?_ | refine br_f ?_ | refine br_not ?_)); first | refine br_lt (fun h1 => ?_) (fun h1 => ?_) | refine br_le (fun h1 => ?_) (fun h1 => ?_) | refine br_eq (fun h1 => ?_) (fun h1 => ?_) | refine br_b (fun h1 => ?_) (fun h1 => ?_)) <;> (conv => lhs; whnf)
    · obtain ⟨hv0, hv1, hv2⟩ := form_var hf h1
      rw [if_pos h1]
      (refine vuK_of (v_call rfl rfl (ev_l1In _ _ _) rfl rfl) ?_; (conv => lhs; whnf))
      ((repeat (first | refine br_t ?_ | refine br_f ?_ | refine br_not ?_)); first | refine br_lt (fun h2 => ?_) (fun h2 => ?_) | refine br_le (fun h2 => ?_) (fun h2 => ?_) | refine br_eq (fun h2 => ?_) (fun h2 => ?_) | refine br_b (fun h2 => ?_) (fun h2 => ?_)) <;> (conv => lhs; whnf)
      · have hlt : t.v.toNat < env.length := by omega
        have hx := he.2 _ (List.getElem_mem hlt)
        have hmin := ev_l1Min t.v (IntKind.wrap .i64 (((rowsI env).length : Int) - 1))
        rw [show (if t.v < IntKind.wrap .i64 (((rowsI env).length : Int) - 1) then t.v else IntKind.wrap .i64 (((rowsI env).length : Int) - 1)) = t.v by
          rw [rowsI_length, hel, wrap_ok (by omega) (by omega)]; split <;> omega] at hmin
        have hmax := ev_l1Max 0 t.v
        rw [show (if t.v < 0 then 0 else t.v) = t.v from if_neg (by omega)] at hmax
        have hg : (rowsI env)[t.v.toNat]? = some [.int .i64 env[t.v.toNat]] := rowsI_get hlt
        (refine vuK_of (v_call rfl rfl (hmin) rfl rfl) ?_; (conv => lhs; whnf))
        (refine vuK_of (v_call rfl rfl (hmax) rfl rfl) ?_; (conv => lhs; whnf))
        (refine vuK_of (v_index_sl rfl rfl rfl hg hv0 rfl) ?_; (conv => lhs; whnf))
        (refine vuK_of (v_call rfl rfl (ev_l1Bit _) rfl rfl) ?_; (conv => lhs; whnf))
        refine res_int ?_
        rw [and_one hx, show varMeans (mdl ts).size env t.v = env[t.v.toNat] % 2 by
          rw [varMeans, if_neg (show ¬ (env.length : Int) ≤ t.v by omega), List.getD_eq_getElem?_getD, List.getElem?_eq_getElem hlt]; rfl]
        rcases hx with e | e <;> rw [e] <;> decide
      · exfalso
        rw [rowsI_length, hel, wrap_ok (by omega) (by omega), decide_eq_false_iff_not] at h2
        omega
    · obtain ⟨k1, k2, k3, k4, k5, k6⟩ := form_fn hf h1
      obtain ⟨_, g1, g2, g6, g3, g4, g5⟩ := world_at hw k1 k2
      obtain ⟨y, hym, hy0, hy, hac, har⟩ := sig_at k1 k2
      rw [if_neg h1]
      (refine vuK_of (v_index_sl rfl rfl rfl hy k1 rfl) ?_; (conv => lhs; whnf))
      ((repeat (first | refine br_t ?_ | refine br_f ?_ | refine br_not ?_)); first | refine br_lt (fun h2 => ?_) (fun h2 => ?_) | refine br_le (fun h2 => ?_) (fun h2 => ?_) | refine br_eq (fun h2 => ?_) (fun h2 => ?_) | refine br_b (fun h2 => ?_) (fun h2 => ?_)) <;> (conv => lhs; whnf)
      · have h2' : acAt s t.f = true := by rw [hac]; exact h2
        have h2k := k4 h2'
        have hsq := world_sq hw k1 k2 h2'
        have hgt : ts[t.f.toNat]? = some (tabAt (mdl ts) t.f) := g3
        rw [if_pos h2']
        generalize tabAt (mdl ts) t.f = tb at hsq hgt
        have h0 : 0 < t.kids.length := by omega
        have hm0 : t.kids[0] ∈ t.kids := List.getElem_mem h0
        have hn0 := nodes_kid hm0
        have hcons : t.kids = t.kids[0] :: t.kids.drop 1 := by rw [← List.drop_eq_getElem_cons h0, List.drop_zero]
        rw [show foldAc tb (mdl ts).size (meansL s (mdl ts) env t.kids) = ((t.kids.drop 1).map (meansT s (mdl ts) env)).foldl (fun a b => ofT tb 2 a b) (meansT s (mdl ts) env t.kids[0]) by
          conv => lhs; rw [hcons]
          rw [meansL, meansL_map, foldAc]; rfl]
        (refine vuK_of (v_idx0 (rowsT_get h0) rfl rfl rfl rfl) ?_; (conv => lhs; whnf))
        (refine vuK_of (v_call rfl rfl (ihk t.kids[0] hm0 (by omega) (k6 _ hm0)) rfl rfl) ?_; (conv => lhs; whnf))
        refine loop_at (β := Int) (fun z x => ⟨[(0, .sl (rowsS s)), (3, .sl (rowsI env)), (5, .ptr (.loc 0 0) 0), (6, .ptr (.loc 0 1) 0), (9, .int .i64 x), (10, .int .i64 z)], [(.loc 0 0, .box [.sl (rowsII ts)]), (.loc 0 1, .box (cellsT t))]⟩) 1 t.kids.length
          (fun _ x => 0 ≤ x ∧ x < 2) (fun i x => some (.int .i64 (((t.kids.drop i).map (meansT s (mdl ts) env)).foldl (fun a b => ofT tb 2 a b) x), [])) (meansT s (mdl ts) env t.kids[0]) rfl rfl (by omega) (means_range hw env _ (k6 _ hm0)) ?_
        intro i x hi1 hi hI ih
        refine round_of ?_
        (conv => lhs; whnf)
        ((repeat (first | refine br_t ?_ | refine br_f ?_ | refine br_not ?_)); first | refine br_lt (fun h5 => ?_) (fun h5 => ?_) | refine br_le (fun h5 => ?_) (fun h5 => ?_) | refine br_eq (fun h5 => ?_) (fun h5 => ?_) | refine br_b (fun h5 => ?_) (fun h5 => ?_)) <;> (conv => lhs; whnf) <;> rw [rowsT_length] at h5
        · have hlt : i < t.kids.length := by omega
          have hm : t.kids[i] ∈ t.kids := List.getElem_mem hlt
          have hn := nodes_kid hm
          have hr := means_range hw env _ (k6 _ hm)
          have hog := ofT_get hsq hI hr
          rw [List.drop_eq_getElem_cons hlt, List.map_cons, List.foldl_cons]
          (refine vuK_of (v_idx (rowsT_get hlt) rfl rfl rfl rfl) ?_; (conv => lhs; whnf))
          (refine vuK_of (v_call rfl rfl (ihk t.kids[i] hm (by omega) (k6 _ hm)) rfl rfl) ?_; (conv => lhs; whnf))
          (refine vuK_of (v_call rfl rfl (ev_l21Two ts t.f x (meansT s (mdl ts) env t.kids[i]) tb k1 hgt hsq hI hr) rfl rfl) ?_; (conv => lhs; whnf))
          exact ih _ _ (ofT tb 2 x (meansT s (mdl ts) env t.kids[i])) rfl (wrap_succ hlt (by omega)) hlt hog.2
        · rw [List.drop_eq_nil_of_le (by omega)]; rfl
      · have h2' : acAt s t.f = false := by rw [hac]; exact h2
        have h2k := k5 h2'
        have hgt : ts[t.f.toNat]? = some (tabAt (mdl ts) t.f) := g3
        rw [if_neg (by rw [h2']; simp)]
        generalize tabAt (mdl ts) t.f = tb at g4 hgt
        have hall : ∀ k ∈ t.kids, 0 ≤ meansT s (mdl ts) env k ∧ meansT s (mdl ts) env k < 2 := fun k hk => means_range hw env _ (k6 _ hk)
        have hp := placeO_range (size := 2) (by omega) (meansL s (mdl ts) env t.kids) (by rw [meansL_map]; intro x hx; obtain ⟨k, hk, rfl⟩ := List.mem_map.1 hx; exact hall k hk)
        have hml : (meansL s (mdl ts) env t.kids).length = t.kids.length := by rw [meansL_map, List.length_map]
        rw [hml] at hp
        have hlen : (tb.length : Int) = 2 ^ t.kids.length := by rw [g4]; show (2 : Int) ^ _ = _; congr 1; omega
        rw [show (mdl ts).size = 2 from rfl]
        generalize hP : placeO 2 (meansL s (mdl ts) env t.kids) = P at hp
        refine loop_for (β := Int) (fun z x => ⟨[(0, .sl (rowsS s)), (3, .sl (rowsI env)), (5, .ptr (.loc 0 0) 0), (6, .ptr (.loc 0 1) 0), (11, .int .i64 x), (12, .int .i64 z)], [(.loc 0 0, .box [.sl (rowsII ts)]), (.loc 0 1, .box (cellsT t))]⟩) t.kids.length
          (fun i x => (0 ≤ x ∧ x < 2 ^ i) ∧ x + 2 ^ i * placeO 2 (meansL s (mdl ts) env (t.kids.drop i)) = P) (fun i x => some (.int .i64 (tb.getD P.toNat 0), [])) 0 rfl rfl ⟨by simp, by simp only [List.drop_zero, hP]; simp⟩ ?_
        rintro i x hi ⟨hx0, hx⟩ ih
        refine round_of ?_
        (conv => lhs; whnf)
        ((repeat (first | refine br_t ?_ | refine br_f ?_ | refine br_not ?_)); first | refine br_lt (fun h5 => ?_) (fun h5 => ?_) | refine br_le (fun h5 => ?_) (fun h5 => ?_) | refine br_eq (fun h5 => ?_) (fun h5 => ?_) | refine br_b (fun h5 => ?_) (fun h5 => ?_)) <;> (conv => lhs; whnf) <;> rw [rowsT_length] at h5
        · have hlt : i < t.kids.length := by omega
          have hm : t.kids[i] ∈ t.kids := List.getElem_mem hlt
          have hn := nodes_kid hm
          have hr := hall _ hm
          have hr2 : meansT s (mdl ts) env t.kids[i] = 0 ∨ meansT s (mdl ts) env t.kids[i] = 1 := by omega
          rw [List.drop_eq_getElem_cons hlt, meansL, placeO] at hx
          have hob := or_bits (i := i) (by omega) hx0 hr2
          (refine vuK_of (v_idx (rowsT_get hlt) rfl rfl rfl rfl) ?_; (conv => lhs; whnf))
          (refine vuK_of (v_call rfl rfl (ihk t.kids[i] hm (by omega) (k6 _ hm)) rfl rfl) ?_; (conv => lhs; whnf))
          refine ih _ _ _ rfl (wrap_succ hlt (by omega)) hlt ?_
          rw [hob]
          have h2i : (2 : Int) ^ (i + 1) = 2 ^ i * 2 := Int.pow_succ _ _
          rw [Int.mul_add] at hx
          rw [h2i]
          refine ⟨?_, ?_⟩
          · rcases hr2 with e | e <;> rw [e] <;> omega
          · rw [Int.mul_assoc]; omega
        · rw [List.drop_eq_nil_of_le (by omega), meansL, placeO, Int.mul_zero] at hx
          have hxP : x = P := by omega
          have hPl : P.toNat < tb.length := by omega
          have hft : (rowsII ts)[t.f.toNat]? = some [.sl (rowsI tb)] := by rw [rowsII, List.getElem?_map, hgt]; rfl
          have hg : (rowsI tb)[x.toNat]? = some [.int .i64 tb[P.toNat]] := by rw [hxP]; exact rowsI_get hPl
          (refine vuK_of (v_index_sl rfl rfl rfl hft k1 rfl) ?_; (conv => lhs; whnf))
          (refine vuK_of (v_index_sl rfl rfl rfl hg hx0.1 rfl) ?_; (conv => lhs; whnf))
          refine res_int ?_
          rw [List.getD_eq_getElem?_getD, List.getElem?_eq_getElem hPl]; rfl
end Go.Proofs.Tryz
