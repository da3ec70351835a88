/- Sizes, copies and comparisons of arguments. Printed by a program (gen/FnL.py). -/
import Derived.Test.YtkbeimibpeofbaaGreatFnK
set_option linter.unusedSimpArgs false
set_option linter.unusedVariables false
namespace Go.Proofs.Tryz
open Go Go.Sim Go.Braid

section
variable {cfg : Cfg} {fi : Nat} {call : FuncId → List AV → List Ob → Option (AV × List Ob)} {env : List (Nat × AV)} {obs : List (Ref × Ob)} {dst : Option Nat}
theorem v_makeSlice {t el : TypeId} {eti : TI} {x y : Operand} {kx ky : IntKind} {n : Nat} {zero : List AV} (hb : eti.bytes * n ≤ 281474976710656) (hn : n ≤ 9223372036854775807) (hx : opA env x = .int kx (n : Int)) (hy : opA env y = .int ky (n : Int))
    (ho : lookR obs (.loc (dst.getD 99999) 0) = none) (hE : elemT cfg.tab t = some (el, eti)) (hz : eti.zero.all (clB fun _ => none) = true) (hz2 : eti.zero.map (clS fun _ => none) = zero) :
    opV cfg fi call dst env obs (.makeSlice t x y) = some (.own (.loc (dst.getD 99999) 0) n, [(.loc (dst.getD 99999) 0, .arr el eti.size (List.replicate n zero) (cfg.wr fi (dst.getD 99999)))]) := by
  rw [← evAV_opA] at hx hy
  subst hz2
  show stepV cfg fi call (.makeSlice t x y) dst env obs = _
  have h0 : (0 : Int) ≤ (n : Int) := Int.natCast_nonneg n
  have h1 : ((n : Nat) : Int).toNat = n := rfl
  have h2 : (eti.bytes : Int) * (n : Int) ≤ 281474976710656 := by rw [← Int.natCast_mul]; omega
  have h3 : (n : Int) ≤ 9223372036854775807 := by omega
  simp only [stepV, stepOp, hE, hx, hy, ho, h0, h1, h2, h3, hz, Option.isNone_none, Int.le_refl, decide_true, Bool.and_self, when, if_true, Option.map_some]
theorem v_store_row {t : TypeId} {ti : TI} {x y : Operand} {r : Ref} {m i e sz : Nat} {rows rows' : List (List AV)} {row xs : List AV} {vy : AV} (hcl : xs.all (clB (lookR obs)) = true) (hfr : xs.flatMap (frzS (lookR obs)) = []) (hi : rows[i]? = some row) (hm : rows.length = m)
    (hl : xs.length = ti.size) (hrl : row.length = xs.length) (hc : xs.map (clS (lookR obs)) = xs) (hr : rows.set i xs = rows')
    (hx : opA env x = .eptr r m i 0) (ho : lookR obs r = some (.arr e sz rows true)) (hy : opA env y = vy) (hy2 : cellsA vy = some xs) (ht : Go.Sim.look cfg.tab t = some ti) :
    opV cfg fi call none env obs (.store t x y) = some (.junk, [(r, .arr e sz rows' true)]) := by
  rw [← evAV_opA] at hx hy
  subst hr
  have hsp : splice row 0 xs = xs := by simp [splice, hrl]
  have hZ : obsZ (lookR obs) [] = lookR obs := by funext q; simp [obsZ]
  show stepV cfg fi call (.store t x y) none env obs = _
  simp only [stepV, stepOp, ht, Option.isNone_none, if_true, storeS, hx, hy, hy2, ho, hi, hfr, hZ, hcl, hc, hsp, hl, hrl, hm]
  simp [when, Step.freeze, hl]
end

theorem set_mid {α : Type} (a : List α) (n : Nat) (z x : α) : (a ++ List.replicate (n + 1) z).set a.length x = (a ++ [x]) ++ List.replicate n z := by
  rw [List.set_append]
  simp [List.replicate_succ]
theorem get_mid {α : Type} (a : List α) (n : Nat) (z : α) : (a ++ List.replicate (n + 1) z)[a.length]? = some z := by
  rw [List.getElem?_append_right (Nat.le_refl _)]; simp

/-! ### Sizes -/
def cut (left : Int) (n : Nat) : Int := if (n : Int) ≤ left then left - n else -1
theorem cut_cut {left : Int} (a b : Nat) (h : 0 ≤ left) : (if cut left a < 0 then -1 else cut (cut left a) b) = cut left (a + b) := by
  unfold cut
  by_cases h1 : (a : Int) ≤ left
  · rw [if_pos h1, if_neg (by omega)]
    by_cases h2 : (b : Int) ≤ left - a
    · rw [if_pos h2, if_pos (by omega)]; omega
    · rw [if_neg h2, if_neg (by omega)]
  · rw [if_neg h1, if_pos (by omega), if_neg (by omega)]
theorem cut_neg {left : Int} {a : Nat} (h0 : 0 ≤ left) (h : cut left a < 0) (b : Nat) : cut left (a + b) = -1 := by
  have := cut_cut a b h0; rw [if_pos h] at this; exact this.symm
theorem cut_ok {left : Int} {a : Nat} (h0 : 0 ≤ left) (h : 0 ≤ cut left a) (b : Nat) : cut left (a + b) = cut (cut left a) b := by
  have := cut_cut a b h0; rw [if_neg (by omega)] at this; exact this.symm
theorem cut_le {left : Int} {a : Nat} (h : 0 ≤ cut left a) : (a : Int) ≤ left ∧ cut left a = left - a := by
  unfold cut at h ⊢
  split at h
  · rename_i h1; exact ⟨h1, if_pos h1⟩
  · omega
theorem neg_cut {left : Int} {n : Nat} (h : cut left n < 0) : -1 = cut left n := by
  unfold cut at h ⊢
  split at h
  · omega
  · rename_i h1; exact (if_neg h1).symm
def sumN {α : Type} (m : α → Nat) (l : List α) : Nat := (l.map m).sum
theorem sumN_cons {α : Type} (m : α → Nat) (x : α) (l : List α) : sumN m (x :: l) = m x + sumN m l := by simp [sumN]
abbrev MaxL (n : Nat) : Prop := n ≤ 9223372036854775807
theorem sub_wrap {left : Int} {n : Nat} (h0 : 0 ≤ left) (h1 : left ≤ 1048576) (hn : MaxL n) : IntKind.wrap .i64 (left - n) = left - n := wrap_ok (by omega) (by omega)
theorem cut_len {left : Int} {n : Nat} (h0 : 0 ≤ left) (h : IntKind.wrap .i64 (left - n) < 0) (h1 : left ≤ 1048576) (hn : MaxL n) (m : Nat) : cut left (n + m) = -1 := by
  rw [sub_wrap h0 h1 hn] at h
  exact if_neg (by omega)

theorem ev_szIntS (l : List Int) (left : Int) (h0 : 0 ≤ left) (h1 : left ≤ 1048576) (hl : MaxL l.length) : EV prog cfg 171 [.sl (rowsI l), .int .i64 left] [] = some (.int .i64 (cut left l.length), []) := by
  (refine EV_k rfl func171 (by rw [f171]) (by rw [f171]; rfl) (by rw [f171]; rfl) ?_; rw [ntmps171]; (conv => lhs; whnf))
  have hw := sub_wrap h0 h1 hl
  rw [← rowsI_length l] at hw
  ((repeat (first | refine br_t ?_ | refine br_f ?_ | refine br_not ?_)); first | refine br_lt (fun h => ?_) (fun h => ?_) | refine br_le (fun h => ?_) (fun h => ?_) | refine br_eq (fun h => ?_) (fun h => ?_) | refine br_b (fun h => ?_) (fun h => ?_)) <;> (conv => lhs; whnf)
  · rw [rowsI_length] at h
    exact res_int (cut_len h0 h h1 hl 0).symm
  · refine res_int ?_
    rw [hw, rowsI_length] at h ⊢
    exact (if_pos (by omega)).symm
theorem ev_szSym (y : Sym) (left : Int) (h0 : 0 ≤ left) (h1 : left ≤ 1048576) (hl : MaxL y.name.size) : EV prog cfg 105 [.agg (cellsS y), .int .i64 left] [] = some (.int .i64 (cut left y.name.size), []) := by
  (refine EV_k rfl func105 (by rw [f105]) (by rw [f105]; rfl) (by rw [f105]; rfl) ?_; rw [ntmps105]; (conv => lhs; whnf))
  have hw := sub_wrap h0 h1 hl
  ((repeat (first | refine br_t ?_ | refine br_f ?_ | refine br_not ?_)); first | refine br_lt (fun h => ?_) (fun h => ?_) | refine br_le (fun h => ?_) (fun h => ?_) | refine br_eq (fun h => ?_) (fun h => ?_) | refine br_b (fun h => ?_) (fun h => ?_)) <;> (conv => lhs; whnf)
  · exact res_int (cut_len h0 h h1 hl 0).symm
  · refine res_int ?_
    rw [hw] at h ⊢
    exact (if_pos (by omega)).symm

set_option maxHeartbeats 1000000 in
theorem ev_szSymS (l : List Sym) (left : Int) (h0 : 0 ≤ left) (h1 : left ≤ 1048576) (hl : MaxL l.length) (hm : ∀ x ∈ l, MaxL x.name.size) : EV prog cfg 29 [.sl (rowsS l), .int .i64 left] [] = some (.int .i64 (cut left (l.length + sumN (fun y : Sym => y.name.size) l)), []) := by
  (refine EV_k rfl func29 (by rw [f29]) (by rw [f29]; rfl) (by rw [f29]; rfl) ?_; rw [ntmps29]; (conv => lhs; whnf))
  have hw := sub_wrap h0 h1 hl
  ((repeat (first | refine br_t ?_ | refine br_f ?_ | refine br_not ?_)); first | refine br_lt (fun h => ?_) (fun h => ?_) | refine br_le (fun h => ?_) (fun h => ?_) | refine br_eq (fun h => ?_) (fun h => ?_) | refine br_b (fun h => ?_) (fun h => ?_)) <;> (conv => lhs; whnf) <;> rw [rowsS_length] at h
  · exact res_int (cut_len h0 h h1 hl _).symm
  · rw [hw] at h
    have hc0 : cut left l.length = left - l.length := if_pos (by omega)
    refine loop_for (β := Int) (fun z m => ⟨[(0, .sl (rowsS l)), (1, .int .i64 m), (5, .int .i64 z)], []⟩) l.length (fun i m => 0 ≤ m ∧ m ≤ 1048576 ∧ cut left (l.length + sumN (fun y : Sym => y.name.size) l) = cut m (sumN (fun y : Sym => y.name.size) (l.drop i)))
      (fun _ _ => some (.int .i64 (cut left (l.length + sumN (fun y : Sym => y.name.size) l)), [])) (left - l.length) rfl (by rw [← hw, ← rowsS_length l]; rfl) ⟨by omega, by omega, by rw [List.drop_zero, cut_ok h0 (by omega), hc0]⟩ ?_
    rintro i m hi ⟨hm0, hm1, hI⟩ ih
    refine round_of ?_
    (conv => lhs; whnf)
    ((repeat (first | refine br_t ?_ | refine br_f ?_ | refine br_not ?_)); first | refine br_lt (fun h5 => ?_) (fun h5 => ?_) | refine br_le (fun h5 => ?_) (fun h5 => ?_) | refine br_eq (fun h5 => ?_) (fun h5 => ?_) | refine br_b (fun h5 => ?_) (fun h5 => ?_)) <;> (conv => lhs; whnf) <;> rw [rowsS_length] at h5
    · have hlt : i < l.length := by omega
      have hx : l[i] ∈ l := List.getElem_mem hlt
      rw [List.drop_eq_getElem_cons hlt, sumN_cons] at hI
      (refine vuK_of (v_idx (rowsS_get hlt) rfl rfl rfl rfl) ?_; (conv => lhs; whnf))
      (refine vuK_of (v_call rfl rfl (ev_szSym l[i] m hm0 hm1 (hm _ hx)) rfl rfl) ?_; (conv => lhs; whnf))
      ((repeat (first | refine br_t ?_ | refine br_f ?_ | refine br_not ?_)); first | refine br_lt (fun h6 => ?_) (fun h6 => ?_) | refine br_le (fun h6 => ?_) (fun h6 => ?_) | refine br_eq (fun h6 => ?_) (fun h6 => ?_) | refine br_b (fun h6 => ?_) (fun h6 => ?_)) <;> (conv => lhs; whnf)
      · rw [hI, cut_neg hm0 h6]; rfl
      · rw [cut_ok hm0 h6] at hI
        have h7 := cut_le h6
        exact ih _ _ _ rfl (wrap_succ hlt (by omega)) hlt ⟨h6, by omega, hI⟩
    · rw [hI, List.drop_eq_nil_of_le (by omega)]
      exact res_int (show m = cut m 0 from by unfold cut; rw [if_pos (by omega)]; omega)

set_option maxHeartbeats 1000000 in
theorem ev_szIntSS (l : List (List Int)) (left : Int) (h0 : 0 ≤ left) (h1 : left ≤ 1048576) (hl : MaxL l.length) (hm : ∀ x ∈ l, MaxL x.length) : EV prog cfg 106 [.sl (rowsII l), .int .i64 left] [] = some (.int .i64 (cut left (l.length + sumN (fun t : List Int => t.length) l)), []) := by
  (refine EV_k rfl func106 (by rw [f106]) (by rw [f106]; rfl) (by rw [f106]; rfl) ?_; rw [ntmps106]; (conv => lhs; whnf))
  have hw := sub_wrap h0 h1 hl
  ((repeat (first | refine br_t ?_ | refine br_f ?_ | refine br_not ?_)); first | refine br_lt (fun h => ?_) (fun h => ?_) | refine br_le (fun h => ?_) (fun h => ?_) | refine br_eq (fun h => ?_) (fun h => ?_) | refine br_b (fun h => ?_) (fun h => ?_)) <;> (conv => lhs; whnf) <;> rw [rowsII_length] at h
  · exact res_int (cut_len h0 h h1 hl _).symm
  · rw [hw] at h
    have hc0 : cut left l.length = left - l.length := if_pos (by omega)
    refine loop_for (β := Int) (fun z m => ⟨[(0, .sl (rowsII l)), (1, .int .i64 m), (5, .int .i64 z)], []⟩) l.length (fun i m => 0 ≤ m ∧ m ≤ 1048576 ∧ cut left (l.length + sumN (fun t : List Int => t.length) l) = cut m (sumN (fun t : List Int => t.length) (l.drop i)))
      (fun _ _ => some (.int .i64 (cut left (l.length + sumN (fun t : List Int => t.length) l)), [])) (left - l.length) rfl (by rw [← hw, ← rowsII_length l]; rfl) ⟨by omega, by omega, by rw [List.drop_zero, cut_ok h0 (by omega), hc0]⟩ ?_
    rintro i m hi ⟨hm0, hm1, hI⟩ ih
    refine round_of ?_
    (conv => lhs; whnf)
    ((repeat (first | refine br_t ?_ | refine br_f ?_ | refine br_not ?_)); first | refine br_lt (fun h5 => ?_) (fun h5 => ?_) | refine br_le (fun h5 => ?_) (fun h5 => ?_) | refine br_eq (fun h5 => ?_) (fun h5 => ?_) | refine br_b (fun h5 => ?_) (fun h5 => ?_)) <;> (conv => lhs; whnf) <;> rw [rowsII_length] at h5
    · have hlt : i < l.length := by omega
      have hx : l[i] ∈ l := List.getElem_mem hlt
      rw [List.drop_eq_getElem_cons hlt, sumN_cons] at hI
      (refine vuK_of (v_idx (rowsII_get hlt) rfl rfl rfl rfl) ?_; (conv => lhs; whnf))
      (refine vuK_of (v_call rfl rfl (ev_szIntS l[i] m hm0 hm1 (hm _ hx)) rfl rfl) ?_; (conv => lhs; whnf))
      ((repeat (first | refine br_t ?_ | refine br_f ?_ | refine br_not ?_)); first | refine br_lt (fun h6 => ?_) (fun h6 => ?_) | refine br_le (fun h6 => ?_) (fun h6 => ?_) | refine br_eq (fun h6 => ?_) (fun h6 => ?_) | refine br_b (fun h6 => ?_) (fun h6 => ?_)) <;> (conv => lhs; whnf)
      · rw [hI, cut_neg hm0 h6]; rfl
      · rw [cut_ok hm0 h6] at hI
        have h7 := cut_le h6
        exact ih _ _ _ rfl (wrap_succ hlt (by omega)) hlt ⟨h6, by omega, hI⟩
    · rw [hI, List.drop_eq_nil_of_le (by omega)]
      exact res_int (show m = cut m 0 from by unfold cut; rw [if_pos (by omega)]; omega)

/-! No list is longer than can be. -/
mutual
def TmMax : Tm → Prop
  | .mk _ _ ks => MaxL ks.length ∧ TmMaxL ks
def TmMaxL : List Tm → Prop
  | [] => True
  | k :: ks => TmMax k ∧ TmMaxL ks
end
theorem TmMaxL_mem : ∀ {ks : List Tm}, TmMaxL ks → ∀ k ∈ ks, TmMax k
  | x :: ks, h, k, hk => by
    rw [TmMaxL] at h
    rcases List.mem_cons.1 hk with rfl | hk
    · exact h.1
    · exact TmMaxL_mem h.2 k hk
def szT (t : Tm) : Nat := nodesL t.kids
theorem sumN_szT (ks : List Tm) : ks.length + sumN szT ks = nodesL ks := by
  induction ks with
  | nil => rfl
  | cons k ks ih => rw [sumN_cons, List.length_cons, nodesL, nodes_kids, ← ih, szT]; omega

set_option maxHeartbeats 1000000 in
theorem ev_szTermS (l : List Tm) (left : Int) (h0 : 0 ≤ left) (h1 : left ≤ 1048576) (hl : MaxL l.length) (hm : ∀ x ∈ l, True) (he : ∀ k ∈ l, ∀ m : Int, 0 ≤ m → m ≤ 1048576 → EV prog cfg 206 [.agg (cellsT k), .int .i64 m] [] = some (.int .i64 (cut m (szT k)), [])) : EV prog cfg 223 [.sl (rowsT l), .int .i64 left] [] = some (.int .i64 (cut left (l.length + sumN szT l)), []) := by
  (refine EV_k rfl func223 (by rw [f223]) (by rw [f223]; rfl) (by rw [f223]; rfl) ?_; rw [ntmps223]; (conv => lhs; whnf))
  have hw := sub_wrap h0 h1 hl
  ((repeat (first | refine br_t ?_ | refine br_f ?_ | refine br_not ?_)); first | refine br_lt (fun h => ?_) (fun h => ?_) | refine br_le (fun h => ?_) (fun h => ?_) | refine br_eq (fun h => ?_) (fun h => ?_) | refine br_b (fun h => ?_) (fun h => ?_)) <;> (conv => lhs; whnf) <;> rw [rowsT_length] at h
  · exact res_int (cut_len h0 h h1 hl _).symm
  · rw [hw] at h
    have hc0 : cut left l.length = left - l.length := if_pos (by omega)
    refine loop_for (β := Int) (fun z m => ⟨[(0, .sl (rowsT l)), (1, .int .i64 m), (5, .int .i64 z)], []⟩) l.length (fun i m => 0 ≤ m ∧ m ≤ 1048576 ∧ cut left (l.length + sumN szT l) = cut m (sumN szT (l.drop i)))
      (fun _ _ => some (.int .i64 (cut left (l.length + sumN szT l)), [])) (left - l.length) rfl (by rw [← hw, ← rowsT_length l]; rfl) ⟨by omega, by omega, by rw [List.drop_zero, cut_ok h0 (by omega), hc0]⟩ ?_
    rintro i m hi ⟨hm0, hm1, hI⟩ ih
    refine round_of ?_
    (conv => lhs; whnf)
    ((repeat (first | refine br_t ?_ | refine br_f ?_ | refine br_not ?_)); first | refine br_lt (fun h5 => ?_) (fun h5 => ?_) | refine br_le (fun h5 => ?_) (fun h5 => ?_) | refine br_eq (fun h5 => ?_) (fun h5 => ?_) | refine br_b (fun h5 => ?_) (fun h5 => ?_)) <;> (conv => lhs; whnf) <;> rw [rowsT_length] at h5
    · have hlt : i < l.length := by omega
      have hx : l[i] ∈ l := List.getElem_mem hlt
      rw [List.drop_eq_getElem_cons hlt, sumN_cons] at hI
      (refine vuK_of (v_idx (rowsT_get hlt) rfl rfl rfl rfl) ?_; (conv => lhs; whnf))
      (refine vuK_of (v_call rfl rfl (he l[i] hx m hm0 hm1) rfl rfl) ?_; (conv => lhs; whnf))
      ((repeat (first | refine br_t ?_ | refine br_f ?_ | refine br_not ?_)); first | refine br_lt (fun h6 => ?_) (fun h6 => ?_) | refine br_le (fun h6 => ?_) (fun h6 => ?_) | refine br_eq (fun h6 => ?_) (fun h6 => ?_) | refine br_b (fun h6 => ?_) (fun h6 => ?_)) <;> (conv => lhs; whnf)
      · rw [hI, cut_neg hm0 h6]; rfl
      · rw [cut_ok hm0 h6] at hI
        have h7 := cut_le h6
        exact ih _ _ _ rfl (wrap_succ hlt (by omega)) hlt ⟨h6, by omega, hI⟩
    · rw [hI, List.drop_eq_nil_of_le (by omega)]
      exact res_int (show m = cut m 0 from by unfold cut; rw [if_pos (by omega)]; omega)

theorem ev_szTerm : ∀ (t : Tm), TmMax t → ∀ left : Int, 0 ≤ left → left ≤ 1048576 → EV prog cfg 206 [.agg (cellsT t), .int .i64 left] [] = some (.int .i64 (cut left (szT t)), []) := by
  intro t
  induction t using Tm.ind with
  | h f v ks ihk =>
    intro hmx left h0 h1
    rw [TmMax] at hmx
    have hs := ev_szTermS ks left h0 h1 hmx.1 (fun _ _ => trivial) (fun k hk m => ihk k hk (TmMaxL_mem hmx.2 k hk) m)
    rw [sumN_szT] at hs
    generalize hA : Tm.mk f v ks = t
    have hk : t.kids = ks := by rw [← hA]; rfl
    rw [← hk] at hs
    (refine EV_k rfl func206 (by rw [f206]) (by rw [f206]; rfl) (by rw [f206]; rfl) ?_; rw [ntmps206]; (conv => lhs; whnf))
    (refine vuK_of (v_call rfl rfl (hs) rfl rfl) ?_; (conv => lhs; whnf))
    ((repeat (first | refine br_t ?_ | refine br_f ?_ | refine br_not ?_)); first | refine br_lt (fun h => ?_) (fun h => ?_) | refine br_le (fun h => ?_) (fun h => ?_) | refine br_eq (fun h => ?_) (fun h => ?_) | refine br_b (fun h => ?_) (fun h => ?_)) <;> (conv => lhs; whnf)
    · exact res_int (neg_cut h)
    · rfl
def LtMax (l : Lt) : Prop := TmMax l.l ∧ TmMax l.r
def szL (l : Lt) : Nat := szT l.l + szT l.r
theorem ev_szLit (l : Lt) (left : Int) (h0 : 0 ≤ left) (h1 : left ≤ 1048576) (hl : LtMax l) : EV prog cfg 172 [.agg (cellsL l), .int .i64 left] [] = some (.int .i64 (cut left (szL l)), []) := by
  (refine EV_k rfl func172 (by rw [f172]) (by rw [f172]; rfl) (by rw [f172]; rfl) ?_; rw [ntmps172]; (conv => lhs; whnf))
  (refine vuK_of (v_call rfl rfl (ev_szTerm l.l hl.1 left h0 h1) rfl rfl) ?_; (conv => lhs; whnf))
  ((repeat (first | refine br_t ?_ | refine br_f ?_ | refine br_not ?_)); first | refine br_lt (fun h => ?_) (fun h => ?_) | refine br_le (fun h => ?_) (fun h => ?_) | refine br_eq (fun h => ?_) (fun h => ?_) | refine br_b (fun h => ?_) (fun h => ?_)) <;> (conv => lhs; whnf)
  · exact res_int (cut_neg h0 h _).symm
  · have h2 := cut_le h
    (refine vuK_of (v_call rfl rfl (ev_szTerm l.r hl.2 _ h (by omega)) rfl rfl) ?_; (conv => lhs; whnf))
    rw [szL, cut_ok h0 h]
    ((repeat (first | refine br_t ?_ | refine br_f ?_ | refine br_not ?_)); first | refine br_lt (fun h3 => ?_) (fun h3 => ?_) | refine br_le (fun h3 => ?_) (fun h3 => ?_) | refine br_eq (fun h3 => ?_) (fun h3 => ?_) | refine br_b (fun h3 => ?_) (fun h3 => ?_)) <;> (conv => lhs; whnf)
    · exact res_int (neg_cut h3)
    · rfl

set_option maxHeartbeats 1000000 in
theorem ev_szLitS (l : List Lt) (left : Int) (h0 : 0 ≤ left) (h1 : left ≤ 1048576) (hl : MaxL l.length) (hm : ∀ x ∈ l, LtMax x) : EV prog cfg 107 [.sl (rowsL l), .int .i64 left] [] = some (.int .i64 (cut left (l.length + sumN szL l)), []) := by
  (refine EV_k rfl func107 (by rw [f107]) (by rw [f107]; rfl) (by rw [f107]; rfl) ?_; rw [ntmps107]; (conv => lhs; whnf))
  have hw := sub_wrap h0 h1 hl
  ((repeat (first | refine br_t ?_ | refine br_f ?_ | refine br_not ?_)); first | refine br_lt (fun h => ?_) (fun h => ?_) | refine br_le (fun h => ?_) (fun h => ?_) | refine br_eq (fun h => ?_) (fun h => ?_) | refine br_b (fun h => ?_) (fun h => ?_)) <;> (conv => lhs; whnf) <;> rw [rowsL_length] at h
  · exact res_int (cut_len h0 h h1 hl _).symm
  · rw [hw] at h
    have hc0 : cut left l.length = left - l.length := if_pos (by omega)
    refine loop_for (β := Int) (fun z m => ⟨[(0, .sl (rowsL l)), (1, .int .i64 m), (5, .int .i64 z)], []⟩) l.length (fun i m => 0 ≤ m ∧ m ≤ 1048576 ∧ cut left (l.length + sumN szL l) = cut m (sumN szL (l.drop i)))
      (fun _ _ => some (.int .i64 (cut left (l.length + sumN szL l)), [])) (left - l.length) rfl (by rw [← hw, ← rowsL_length l]; rfl) ⟨by omega, by omega, by rw [List.drop_zero, cut_ok h0 (by omega), hc0]⟩ ?_
    rintro i m hi ⟨hm0, hm1, hI⟩ ih
    refine round_of ?_
    (conv => lhs; whnf)
    ((repeat (first | refine br_t ?_ | refine br_f ?_ | refine br_not ?_)); first | refine br_lt (fun h5 => ?_) (fun h5 => ?_) | refine br_le (fun h5 => ?_) (fun h5 => ?_) | refine br_eq (fun h5 => ?_) (fun h5 => ?_) | refine br_b (fun h5 => ?_) (fun h5 => ?_)) <;> (conv => lhs; whnf) <;> rw [rowsL_length] at h5
    · have hlt : i < l.length := by omega
      have hx : l[i] ∈ l := List.getElem_mem hlt
      rw [List.drop_eq_getElem_cons hlt, sumN_cons] at hI
      (refine vuK_of (v_idx (rowsL_get hlt) rfl rfl rfl rfl) ?_; (conv => lhs; whnf))
      (refine vuK_of (v_call rfl rfl (ev_szLit l[i] m hm0 hm1 (hm _ hx)) rfl rfl) ?_; (conv => lhs; whnf))
      ((repeat (first | refine br_t ?_ | refine br_f ?_ | refine br_not ?_)); first | refine br_lt (fun h6 => ?_) (fun h6 => ?_) | refine br_le (fun h6 => ?_) (fun h6 => ?_) | refine br_eq (fun h6 => ?_) (fun h6 => ?_) | refine br_b (fun h6 => ?_) (fun h6 => ?_)) <;> (conv => lhs; whnf)
      · rw [hI, cut_neg hm0 h6]; rfl
      · rw [cut_ok hm0 h6] at hI
        have h7 := cut_le h6
        exact ih _ _ _ rfl (wrap_succ hlt (by omega)) hlt ⟨h6, by omega, hI⟩
    · rw [hI, List.drop_eq_nil_of_le (by omega)]
      exact res_int (show m = cut m 0 from by unfold cut; rw [if_pos (by omega)]; omega)

def szC (c : List Lt) : Nat := c.length + sumN szL c
theorem ev_szClause (c : List Lt) (left : Int) (h0 : 0 ≤ left) (h1 : left ≤ 1048576) (hl : MaxL c.length) (hm : ∀ x ∈ c, LtMax x) : EV prog cfg 31 [.agg [.sl (rowsL c)], .int .i64 left] [] = some (.int .i64 (cut left (szC c)), []) := by
  (refine EV_k rfl func31 (by rw [f31]) (by rw [f31]; rfl) (by rw [f31]; rfl) ?_; rw [ntmps31]; (conv => lhs; whnf))
  (refine vuK_of (v_call rfl rfl (ev_szLitS c left h0 h1 hl hm) rfl rfl) ?_; (conv => lhs; whnf))
  ((repeat (first | refine br_t ?_ | refine br_f ?_ | refine br_not ?_)); first | refine br_lt (fun h => ?_) (fun h => ?_) | refine br_le (fun h => ?_) (fun h => ?_) | refine br_eq (fun h => ?_) (fun h => ?_) | refine br_b (fun h => ?_) (fun h => ?_)) <;> (conv => lhs; whnf)
  · exact res_int (neg_cut h)
  · rfl
def szTs (ts : List (List Int)) : Nat := ts.length + sumN (fun t : List Int => t.length) ts
theorem ev_szModel (ts : List (List Int)) (left : Int) (h0 : 0 ≤ left) (h1 : left ≤ 1048576) (hl : MaxL ts.length) (hm : ∀ x ∈ ts, MaxL x.length) : EV prog cfg 30 [.agg [.sl (rowsII ts)], .int .i64 left] [] = some (.int .i64 (cut left (szTs ts)), []) := by
  (refine EV_k rfl func30 (by rw [f30]) (by rw [f30]; rfl) (by rw [f30]; rfl) ?_; rw [ntmps30]; (conv => lhs; whnf))
  (refine vuK_of (v_call rfl rfl (ev_szIntSS ts left h0 h1 hl hm) rfl rfl) ?_; (conv => lhs; whnf))
  ((repeat (first | refine br_t ?_ | refine br_f ?_ | refine br_not ?_)); first | refine br_lt (fun h => ?_) (fun h => ?_) | refine br_le (fun h => ?_) (fun h => ?_) | refine br_eq (fun h => ?_) (fun h => ?_) | refine br_b (fun h => ?_) (fun h => ?_)) <;> (conv => lhs; whnf)
  · exact res_int (neg_cut h)
  · rfl
end Go.Proofs.Tryz
