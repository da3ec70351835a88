/- What terms mean. -/
import Derived.Test.YtkbeimibpeofbaaGreatFnG2
set_option linter.unusedSimpArgs false
set_option linter.unusedVariables false
namespace Go.Proofs.Tryz
open Go Go.Sim Go.Braid

def placeO (size : Int) : List Int → Int
  | [] => 0
  | x :: xs => x + size * placeO size xs
def foldAc (t : List Int) (size : Int) : List Int → Int
  | [] => 0
  | x :: xs => xs.foldl (fun a b => ofT t size a b) x
def tabAt (w : Wd) (f : Int) : List Int := w.tables.getD f.toNat []
def varMeans (size : Int) (env : List Int) (v : Int) : Int := if (env.length : Int) ≤ v then 0 else (env.getD v.toNat 0) % size
mutual
def meansT (s : List Sym) (w : Wd) (env : List Int) : Tm → Int
  | .mk f v ks => if f = -1 then varMeans w.size env v else
      if acAt s f = true then foldAc (tabAt w f) w.size (meansL s w env ks) else (tabAt w f).getD (placeO w.size (meansL s w env ks)).toNat 0
def meansL (s : List Sym) (w : Wd) (env : List Int) : List Tm → List Int
  | [] => []
  | k :: ks => meansT s w env k :: meansL s w env ks
end
theorem meansT_eq (s : List Sym) (w : Wd) (env : List Int) (t : Tm) : meansT s w env t = if t.f = -1 then varMeans w.size env t.v else
      if acAt s t.f = true then foldAc (tabAt w t.f) w.size (meansL s w env t.kids) else (tabAt w t.f).getD (placeO w.size (meansL s w env t.kids)).toNat 0 := by cases t; rw [meansT]; rfl
theorem meansL_map (s : List Sym) (w : Wd) (env : List Int) (ks : List Tm) : meansL s w env ks = ks.map (meansT s w env) := by
  induction ks with
  | nil => rfl
  | cons k ks ih => rw [meansL, ih]; rfl

theorem formL_mem {s : List Sym} {f : Int} : ∀ {p : Option Tm} {ks : List Tm}, formL s f p ks = true → ∀ k ∈ ks, formB s k = true
  | p, [], _, k, hk => by cases hk
  | p, x :: ks, h, k, hk => by
    rw [formL] at h
    simp only [Bool.and_eq_true] at h
    rcases List.mem_cons.1 hk with rfl | hk
    · exact h.1.1
    · exact formL_mem h.2 k hk
/-- What a right term is. -/
theorem form_var {s : List Sym} {t : Tm} (h : formB s t = true) (hf : t.f = -1) : 0 ≤ t.v ∧ t.v ≤ 99 ∧ t.kids = [] := by
  rw [formB_eq, if_pos hf] at h
  simp only [Bool.and_eq_true, decide_eq_true_eq] at h
  exact ⟨h.1.1, h.1.2, List.length_eq_zero_iff.1 h.2⟩
theorem form_fn {s : List Sym} {t : Tm} (h : formB s t = true) (hf : ¬ t.f = -1) : 0 ≤ t.f ∧ t.f < s.length ∧ t.v = 0 ∧ (acAt s t.f = true → 2 ≤ t.kids.length) ∧ (acAt s t.f = false → (t.kids.length : Int) = arAt s t.f) ∧ ∀ k ∈ t.kids, formB s k = true := by
  rw [formB_eq, if_neg hf] at h
  simp only [Bool.and_eq_true] at h
  have h1 := h.1
  unfold ownOk at h1
  simp only [Bool.and_eq_true, decide_eq_true_eq] at h1
  refine ⟨h1.1.1.1, h1.1.1.2, h1.1.2, fun ha => ?_, fun ha => ?_, formL_mem h.2⟩
  · have := h1.2; rw [if_pos ha] at this; simpa using this
  · have := h1.2; rw [if_neg (by rw [ha]; simp)] at this; simpa using this
/-- What a right world has for a function. -/
theorem world_at {s : List Sym} {w : Wd} (h : worldB s w = true) {f : Int} (h0 : 0 ≤ f) (h1 : f < s.length) :
    (1 ≤ w.size ∧ w.size ≤ 4) ∧ 0 ≤ arAt s f ∧ arAt s f ≤ 3 ∧ (acAt s f = true → arAt s f = 2) ∧ w.tables[f.toNat]? = some (tabAt w f) ∧ ((tabAt w f).length : Int) = w.size ^ (arAt s f).toNat ∧ ∀ x ∈ tabAt w f, 0 ≤ x ∧ x < w.size := by
  simp only [worldB, Bool.and_eq_true, decide_eq_true_eq] at h
  obtain ⟨⟨⟨h2, h3⟩, h4⟩, h5⟩ := h
  have hf : f.toNat < s.length := by omega
  have hf2 : f.toNat < w.tables.length := by omega
  have h6 := (allFrom_iff _ _ _).1 h5 f.toNat (Nat.zero_le _) hf
  have ht : w.tables[f.toNat]? = some (tabAt w f) := by rw [tabAt, List.getD_eq_getElem?_getD, List.getElem?_eq_getElem hf2]; rfl
  obtain ⟨y, _, hy, _, hac, har⟩ := sig_at h0 h1
  have hya := sig_arity h2 hf
  rw [show s[f.toNat] = y by rw [List.getElem?_eq_getElem hf] at hy; exact Option.some.inj hy] at hya
  simp only [tabP, hy, ht, tabB, Bool.and_eq_true, decide_eq_true_eq] at h6
  rw [har, hac]
  exact ⟨h3, hya.1, hya.2.1, hya.2.2, ht, h6.1.1, fun x hx => by simpa [inB] using List.all_eq_true.1 h6.1.2 x hx⟩
theorem world_sq {s : List Sym} {w : Wd} (h : worldB s w = true) {f : Int} (h0 : 0 ≤ f) (h1 : f < s.length) (ha : acAt s f = true) : Sq w.size (tabAt w f) := by
  obtain ⟨h2, h3, h4, h5, h6, h7, h8⟩ := world_at h h0 h1
  refine ⟨h2.1, h2.2, ?_, h8⟩
  rw [h7, h5 ha]
  show w.size ^ 2 = _
  rw [Int.pow_succ, Int.pow_succ, Int.pow_zero, Int.one_mul]

theorem placeO_range {size : Int} (h1 : 1 ≤ size) : ∀ (xs : List Int), (∀ x ∈ xs, 0 ≤ x ∧ x < size) → 0 ≤ placeO size xs ∧ placeO size xs < size ^ xs.length
  | [], _ => by simp [placeO]
  | x :: xs, h => by
    have h2 := placeO_range h1 xs fun y hy => h y (by simp [hy])
    have hx := h x (by simp)
    rw [placeO, List.length_cons, Int.pow_succ]
    have h3 : 0 ≤ size * placeO size xs := Int.mul_nonneg (by omega) h2.1
    have h4 : size * (placeO size xs + 1) ≤ size * size ^ xs.length := Int.mul_le_mul_of_nonneg_left (by omega) (by omega)
    rw [Int.mul_add, Int.mul_one] at h4
    rw [Int.mul_comm (size ^ xs.length)]
    omega
theorem foldl_range {t : List Int} {size : Int} (h : Sq size t) : ∀ (xs : List Int) (x : Int), (0 ≤ x ∧ x < size) → (∀ y ∈ xs, 0 ≤ y ∧ y < size) → 0 ≤ xs.foldl (fun a b => ofT t size a b) x ∧ xs.foldl (fun a b => ofT t size a b) x < size
  | [], x, hx, _ => hx
  | y :: xs, x, hx, hy => foldl_range h xs _ (ofT_get h hx (hy y (by simp))).2 fun z hz => hy z (by simp [hz])
theorem varMeans_range {size : Int} (h1 : 1 ≤ size) (env : List Int) (v : Int) : 0 ≤ varMeans size env v ∧ varMeans size env v < size := by
  unfold varMeans
  split
  · omega
  · exact ⟨Int.emod_nonneg _ (by omega), Int.emod_lt_of_pos _ (by omega)⟩

theorem means_range {s : List Sym} {w : Wd} (hw : worldB s w = true) (env : List Int) : ∀ t, formB s t = true → 0 ≤ meansT s w env t ∧ meansT s w env t < w.size := by
  have hsz : 1 ≤ w.size ∧ w.size ≤ 4 := by simp only [worldB, Bool.and_eq_true, decide_eq_true_eq] at hw; exact hw.1.1.2
  intro t
  induction t using Tm.ind with
  | h f v ks ihk =>
    intro hf
    generalize hA : Tm.mk f v ks = t at hf ⊢
    have hk : t.kids = ks := by rw [← hA]; rfl
    rw [← hk] at ihk
    rw [meansT_eq]
    split
    · exact varMeans_range hsz.1 _ _
    · rename_i hv
      obtain ⟨h1, h2, h3, h4, h5, h6⟩ := form_fn hf hv
      have hall : ∀ x ∈ meansL s w env t.kids, 0 ≤ x ∧ x < w.size := by
        rw [meansL_map]
        intro x hx
        obtain ⟨k, hk, rfl⟩ := List.mem_map.1 hx
        exact ihk k hk (h6 k hk)
      split
      · rename_i ha
        have hl : (meansL s w env t.kids).length = t.kids.length := by rw [meansL_map, List.length_map]
        have := h4 ha
        match hm : meansL s w env t.kids with
        | [] => rw [hm] at hl; simp at hl; omega
        | x :: xs =>
          rw [hm] at hall
          exact foldl_range (world_sq hw h1 h2 ha) xs x (hall x (by simp)) fun y hy => hall y (by simp [hy])
      · rename_i ha
        obtain ⟨_, g1, g2, _, g3, g4, g5⟩ := world_at hw h1 h2
        have hp := placeO_range hsz.1 _ hall
        have hl : (meansL s w env t.kids).length = (arAt s t.f).toNat := by
          rw [meansL_map, List.length_map]
          have := h5 (by simpa using ha)
          omega
        rw [hl, ← g4] at hp
        have hlt : (placeO w.size (meansL s w env t.kids)).toNat < (tabAt w t.f).length := by omega
        rw [List.getD_eq_getElem?_getD, List.getElem?_eq_getElem hlt]
        exact g5 _ (List.getElem_mem hlt)

theorem tmod_emod {a size : Int} (h : 1 ≤ size) (h4 : size ≤ 4) : -4 < a.tmod size ∧ a.tmod size < 4 ∧ (a.tmod size + size).tmod size = a % size := by
  have e1 : size = 1 ∨ size = 2 ∨ size = 3 ∨ size = 4 := by omega
  by_cases h0 : 0 ≤ a
  · have e2 : a.tmod size = a % size := Int.tmod_eq_emod_of_nonneg h0
    rw [e2]
    rw [Int.tmod_eq_emod_of_nonneg (by rcases e1 with rfl | rfl | rfl | rfl <;> omega)]
    rcases e1 with rfl | rfl | rfl | rfl <;> omega
  · have e2 : a.tmod size = -((-a) % size) := by
      rw [← Int.tmod_eq_emod_of_nonneg (show 0 ≤ -a by omega), Int.neg_tmod, Int.neg_neg]
    rw [e2]
    rw [Int.tmod_eq_emod_of_nonneg (by rcases e1 with rfl | rfl | rfl | rfl <;> omega)]
    rcases e1 with rfl | rfl | rfl | rfl <;> omega

set_option maxHeartbeats 4000000 in
theorem ev_means {s : List Sym} (hs : Small s.length) {w : Wd} (hw : worldB s w = true) (env : List Int) (he : Small env.length) : ∀ (t : Tm), Small (nodes t) → formB s t = true →
    EV prog cfg 120 [.sl (rowsS s), .agg (cellsW w), .agg (cellsT t), .sl (rowsI env)] [] = some (.int .i64 (meansT s w env t), []) := by
  have hsz : 1 ≤ w.size ∧ w.size ≤ 4 := by simp only [worldB, Bool.and_eq_true, decide_eq_true_eq] at hw; exact hw.1.1.2
  intro t
  induction t using Tm.ind with
  | h f v ks ihk =>
    intro ha hf
    generalize hA : Tm.mk f v ks = t at ha hf ⊢
    have hk : t.kids = ks := by rw [← hA]; rfl
    rw [← hk] at ihk
    have hkl := nodes_len t
    rw [meansT_eq]
    (refine EV_k rfl func120 (by rw [f120]) (by rw [f120]; rfl) (by rw [f120]; rfl) ?_; rw [ntmps120]; (conv => lhs; whnf))
    (refine vuK_of (v_call rfl rfl (ev_isVar t) rfl rfl) ?_; (conv => lhs; whnf))
    ((repeat (first | refine br_t ?_ | refine br_f ?_ | refine br_not ?_)); first | refine br_lt (fun h1 => ?_) (fun h1 => ?_) | refine br_le (fun h1 => ?_) (fun h1 => ?_) | refine br_eq (fun h1 => ?_) (fun h1 => ?_) | refine br_b (fun h1 => ?_) (fun h1 => ?_)) <;> (conv => lhs; whnf)
    · have h1 : t.f = -1 := by simpa using h1
      obtain ⟨hv0, hv1, hv2⟩ := form_var hf h1
      rw [if_pos h1, varMeans]
      ((repeat (first | refine br_t ?_ | refine br_f ?_ | refine br_not ?_)); first | refine br_lt (fun h2 => ?_) (fun h2 => ?_) | refine br_le (fun h2 => ?_) (fun h2 => ?_) | refine br_eq (fun h2 => ?_) (fun h2 => ?_) | refine br_b (fun h2 => ?_) (fun h2 => ?_)) <;> (conv => lhs; whnf) <;> rw [rowsI_length] at h2
      · rw [if_pos h2]; rfl
      · rw [if_neg (by omega)]
        have hlt : t.v.toNat < env.length := by omega
        have hg : (rowsI env)[t.v.toNat]? = some [.int .i64 env[t.v.toNat]] := rowsI_get hlt
        have hne : w.size ≠ 0 := by omega
        obtain ⟨m1, m2, m3⟩ := tmod_emod (a := env[t.v.toNat]) hsz.1 hsz.2
        (refine vuK_of (v_index_sl rfl rfl rfl hg hv0 rfl) ?_; (conv => lhs; whnf))
        refine vuK_of (v_rem rfl rfl hne) ?_
        (conv => lhs; whnf)
        refine vuK_of (v_rem rfl rfl hne) ?_
        (conv => lhs; whnf)
        refine res_int ?_
        rw [wrap_ok (by omega) (by omega), m3, List.getD_eq_getElem?_getD, List.getElem?_eq_getElem hlt]
        rfl
    · have h1 : ¬ t.f = -1 := by simpa using h1
      obtain ⟨k1, k2, k3, k4, k5, k6⟩ := form_fn hf h1
      obtain ⟨_, g1, g2, g6, g3, g4, g5⟩ := world_at hw k1 k2
      rw [if_neg h1]
      have hft : (rowsII w.tables)[t.f.toNat]? = some [.sl (rowsI (tabAt w t.f))] := by rw [rowsII, List.getElem?_map, g3]; rfl
      generalize htab : tabAt w t.f = tb at g3 g4 g5 hft
      (refine vuK_of (v_index_sl rfl rfl rfl hft k1 rfl) ?_; (conv => lhs; whnf))
      (refine vuK_of (v_call rfl rfl (ev_Blind s t.f hs) rfl rfl) ?_; (conv => lhs; whnf))
      ((repeat (first | refine br_t ?_ | refine br_f ?_ | refine br_not ?_)); first | refine br_lt (fun h2 => ?_) (fun h2 => ?_) | refine br_le (fun h2 => ?_) (fun h2 => ?_) | refine br_eq (fun h2 => ?_) (fun h2 => ?_) | refine br_b (fun h2 => ?_) (fun h2 => ?_)) <;> (conv => lhs; whnf)
      · have h2k := k4 h2
        have hsq : Sq w.size tb := by rw [← htab]; exact world_sq hw k1 k2 h2
        rw [if_pos h2]
        have h0 : 0 < t.kids.length := by omega
        have hm0 : t.kids[0] ∈ t.kids := List.getElem_mem h0
        have hn0 := nodes_kid hm0
        (refine vuK_of (v_idx0 (rowsT_get h0) rfl rfl rfl rfl) ?_; (conv => lhs; whnf))
        (refine vuK_of (v_call rfl rfl (ihk t.kids[0] hm0 (by omega) (k6 _ hm0)) rfl rfl) ?_; (conv => lhs; whnf))
        have hcons : t.kids = t.kids[0] :: t.kids.drop 1 := by rw [← List.drop_eq_getElem_cons h0, List.drop_zero]
        generalize hrest : t.kids.drop 1 = rest at hcons
        have hrl : rest.length + 1 = t.kids.length := by rw [hcons]; simp
        have hrm : ∀ k ∈ rest, k ∈ t.kids := fun k hk => by rw [hcons]; exact List.mem_cons_of_mem _ hk
        rw [show foldAc tb w.size (meansL s w env t.kids) = (rest.map (meansT s w env)).foldl (fun a b => ofT tb w.size a b) (meansT s w env t.kids[0]) by
          conv => lhs; rw [hcons]
          rw [meansL, meansL_map, foldAc]]
        refine vuK_of (v_slice_lo (i := 1) (rowLens_T _) (show 1 ≤ (rowsT t.kids).length by rw [rowsT_length]; omega) (show (rowsT t.kids).drop 1 = rowsT rest by rw [rowsT_map, rowsT_map, ← List.map_drop, hrest]) rfl rfl rfl) ?_
        (conv => lhs; whnf)
        refine loop_for (β := Int) (fun z x => ⟨[(0, .sl (rowsS s)), (3, .sl (rowsI env)), (5, .ptr (.loc 0 0) 0), (9, .sl (rowsI tb)), (10, .int .i64 x), (58, .sl (rowsT rest)), (59, .int .i64 (rowsT rest).length), (60, .int .i64 z)], [(.loc 0 0, .box (cellsW w))]⟩) rest.length
          (fun _ x => 0 ≤ x ∧ x < w.size) (fun i x => some (.int .i64 (((rest.drop i).map (meansT s w env)).foldl (fun a b => ofT tb w.size a b) x), [])) (meansT s w env t.kids[0]) rfl rfl (means_range hw env _ (k6 _ hm0)) ?_
        intro i x hi hI ih
        refine round_of ?_
        (conv => lhs; whnf)
        ((repeat (first | refine br_t ?_ | refine br_f ?_ | refine br_not ?_)); first | refine br_lt (fun h5 => ?_) (fun h5 => ?_) | refine br_le (fun h5 => ?_) (fun h5 => ?_) | refine br_eq (fun h5 => ?_) (fun h5 => ?_) | refine br_b (fun h5 => ?_) (fun h5 => ?_)) <;> (conv => lhs; whnf) <;> rw [rowsT_length] at h5
        · have hlt : i < rest.length := by omega
          have hm := hrm _ (List.getElem_mem hlt)
          have hn := nodes_kid hm
          have hr := means_range hw env _ (k6 _ hm)
          have hsa := sq_at hsq hI hr
          have hog := ofT_get hsq hI hr
          rw [List.drop_eq_getElem_cons hlt, List.map_cons, List.foldl_cons]
          (refine vuK_of (v_idx (rowsT_get hlt) rfl rfl rfl rfl) ?_; (conv => lhs; whnf))
          (refine vuK_of (v_call rfl rfl (ihk rest[i] hm (by omega) (k6 _ hm)) rfl rfl) ?_; (conv => lhs; whnf))
          have hw2 : IntKind.wrap .i64 (x + IntKind.wrap .i64 (w.size * meansT s w env rest[i])) = x + w.size * meansT s w env rest[i] := by rw [wrap_ok (z := w.size * meansT s w env rest[i]) (by omega) (by omega), wrap_ok (by omega) (by omega)]
          have hg : (rowsI tb)[(IntKind.wrap .i64 (x + IntKind.wrap .i64 (w.size * meansT s w env rest[i]))).toNat]? = some [.int .i64 (ofT tb w.size x (meansT s w env rest[i]))] := by rw [hw2, rowsI, List.getElem?_map, hog.1]; rfl
          have hg0 : 0 ≤ IntKind.wrap .i64 (x + IntKind.wrap .i64 (w.size * meansT s w env rest[i])) := by rw [hw2]; exact hsa.1
          (refine vuK_of (v_index_sl rfl rfl rfl hg hg0 rfl) ?_; (conv => lhs; whnf))
          exact ih _ _ (ofT tb w.size x (meansT s w env rest[i])) rfl (wrap_succ hlt (by omega)) hlt hog.2
        · rw [List.drop_eq_nil_of_le (by omega)]; rfl
      · rw [if_neg (by rw [h2]; simp)]
        have h2k := k5 h2
        have hall : ∀ k ∈ t.kids, 0 ≤ meansT s w env k ∧ meansT s w env k < w.size := fun k hk => means_range hw env _ (k6 _ hk)
        have hpow : ∀ i : Nat, i ≤ 3 → 1 ≤ w.size ^ i ∧ w.size ^ i ≤ 64 := by
          intro i hi
          have e1 : w.size = 1 ∨ w.size = 2 ∨ w.size = 3 ∨ w.size = 4 := by omega
          have e2 : i = 0 ∨ i = 1 ∨ i = 2 ∨ i = 3 := by omega
          rcases e1 with e | e | e | e <;> rw [e] <;> rcases e2 with rfl | rfl | rfl | rfl <;> decide
        have hp := placeO_range hsz.1 (meansL s w env t.kids) (by rw [meansL_map]; intro x hx; obtain ⟨k, hk, rfl⟩ := List.mem_map.1 hx; exact hall k hk)
        have hml : (meansL s w env t.kids).length = t.kids.length := by rw [meansL_map, List.length_map]
        rw [hml] at hp
        have hp3 := hpow t.kids.length (by omega)
        have hlen : (tb.length : Int) = w.size ^ t.kids.length := by rw [g4]; congr 1; omega
        generalize hP : placeO w.size (meansL s w env t.kids) = P at hp
        refine loop_for (β := Int × Int) (fun z x => ⟨[(0, .sl (rowsS s)), (3, .sl (rowsI env)), (5, .ptr (.loc 0 0) 0), (9, .sl (rowsI tb)), (13, .int .i64 x.1), (14, .int .i64 x.2), (80, .sl (rowsT t.kids)), (81, .int .i64 (rowsT t.kids).length), (82, .int .i64 z)], [(.loc 0 0, .box (cellsW w))]⟩) t.kids.length
          (fun i x => x.2 = w.size ^ i ∧ 0 ≤ x.1 ∧ x.1 + x.2 * placeO w.size (meansL s w env (t.kids.drop i)) = P) (fun i x => some (.int .i64 (tb.getD P.toNat 0), [])) (0, 1) rfl rfl ⟨(Int.pow_zero _).symm, Int.le_refl 0, by simp only [List.drop_zero]; omega⟩ ?_
        rintro i ⟨x, u⟩ hi ⟨hu, hx0, hx⟩ ih
        simp only at hu hx0 hx
        refine round_of ?_
        (conv => lhs; whnf)
        ((repeat (first | refine br_t ?_ | refine br_f ?_ | refine br_not ?_)); first | refine br_lt (fun h5 => ?_) (fun h5 => ?_) | refine br_le (fun h5 => ?_) (fun h5 => ?_) | refine br_eq (fun h5 => ?_) (fun h5 => ?_) | refine br_b (fun h5 => ?_) (fun h5 => ?_)) <;> (conv => lhs; whnf) <;> rw [rowsT_length] at h5
        · have hlt : i < t.kids.length := by omega
          have hm : t.kids[i] ∈ t.kids := List.getElem_mem hlt
          have hn := nodes_kid hm
          have hr := hall _ hm
          rw [List.drop_eq_getElem_cons hlt, meansL, placeO, Int.mul_add] at hx
          have hq := placeO_range hsz.1 (meansL s w env (t.kids.drop (i + 1))) (by rw [meansL_map]; intro x hx; obtain ⟨k, hk, rfl⟩ := List.mem_map.1 hx; exact hall k (List.mem_of_mem_drop hk))
          have hpi := hpow i (by omega)
          have hpi1 := hpow (i + 1) (by omega)
          have hpos : 0 ≤ u * (w.size * placeO w.size (meansL s w env (t.kids.drop (i + 1)))) := Int.mul_nonneg (by omega) (Int.mul_nonneg (by omega) hq.1)
          have hpos2 : 0 ≤ u * meansT s w env t.kids[i] := Int.mul_nonneg (by omega) hr.1
          have hus : IntKind.wrap .i64 (u * w.size) = w.size ^ (i + 1) := by
            have e : u * w.size = w.size ^ (i + 1) := by rw [hu, Int.pow_succ]
            rw [e, wrap_ok (by omega) (by omega)]
          have hw2 : IntKind.wrap .i64 (x + IntKind.wrap .i64 (u * meansT s w env t.kids[i])) = x + u * meansT s w env t.kids[i] := by rw [wrap_ok (z := u * meansT s w env t.kids[i]) (by omega) (by omega), wrap_ok (by omega) (by omega)]
          (refine vuK_of (v_idx (rowsT_get hlt) rfl rfl rfl rfl) ?_; (conv => lhs; whnf))
          (refine vuK_of (v_call rfl rfl (ihk t.kids[i] hm (by omega) (k6 _ hm)) rfl rfl) ?_; (conv => lhs; whnf))
          refine ih _ _ (IntKind.wrap .i64 (x + IntKind.wrap .i64 (u * meansT s w env t.kids[i])), IntKind.wrap .i64 (u * w.size)) rfl (wrap_succ hlt (by omega)) hlt ⟨hus, ?_, ?_⟩
          · show 0 ≤ IntKind.wrap .i64 (x + IntKind.wrap .i64 (u * meansT s w env t.kids[i]))
            rw [hw2]; omega
          · show IntKind.wrap .i64 (x + IntKind.wrap .i64 (u * meansT s w env t.kids[i])) + IntKind.wrap .i64 (u * w.size) * _ = P
            rw [hw2, hus, Int.pow_succ, ← hu, Int.mul_assoc]; omega
        · rw [List.drop_eq_nil_of_le (by omega), meansL, placeO, Int.mul_zero] at hx
          have hxP : x = P := by omega
          have hPl : P.toNat < tb.length := by omega
          have hg : (rowsI tb)[x.toNat]? = some [.int .i64 tb[P.toNat]] := by rw [hxP]; exact rowsI_get hPl
          (refine vuK_of (v_index_sl rfl rfl rfl hg hx0 rfl) ?_; (conv => lhs; whnf))
          refine res_int ?_
          rw [List.getD_eq_getElem?_getD, List.getElem?_eq_getElem hPl]; rfl
end Go.Proofs.Tryz
