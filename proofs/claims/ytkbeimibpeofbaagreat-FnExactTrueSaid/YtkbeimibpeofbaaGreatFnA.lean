/- Names and functions of a signature. -/
import Derived.Test.YtkbeimibpeofbaaGreatCfg
set_option linter.unusedSimpArgs false
set_option linter.unusedVariables false
namespace Go.Proofs.Tryz
open Go Go.Sim Go.Braid

theorem ev_isVar (t : Tm) : EV prog cfg 157 [.agg (cellsT t)] [] = some (.bool (decide (t.f = -1)), []) := by
  (refine EV_k rfl func157 (by rw [f157]) (by rw [f157]; rfl) (by rw [f157]; rfl) ?_; rw [ntmps157]; (conv => lhs; whnf))
  exact res_bool (by simp [eqI_eq])

theorem ev_from (n lo hi : Int) : EV prog cfg 82 [.int .i64 n, .int .i64 lo, .int .i64 hi] [] = some (.bool (decide (lo ≤ n ∧ n ≤ hi)), []) := by
  (refine EV_k rfl func82 (by rw [f82]) (by rw [f82]; rfl) (by rw [f82]; rfl) ?_; rw [ntmps82]; (conv => lhs; whnf))
  ((repeat (first | refine br_t ?_ | refine br_f ?_ | refine br_not ?_)); first | refine br_lt (fun h => ?_) (fun h => ?_) | refine br_le (fun h => ?_) (fun h => ?_) | refine br_eq (fun h => ?_) (fun h => ?_) | refine br_b (fun h => ?_) (fun h => ?_)) <;> (conv => lhs; whnf)
  · exact res_bool (by simp [leI_eq, h])
  · exact res_bool (by simp; omega)

theorem ev_l1In (n lo hi : Int) : EV prog cfg 127 [.int .i64 n, .int .i64 lo, .int .i64 hi] [] = some (.bool (decide (lo ≤ n ∧ n ≤ hi)), []) := by
  (refine EV_k rfl func127 (by rw [f127]) (by rw [f127]; rfl) (by rw [f127]; rfl) ?_; rw [ntmps127]; (conv => lhs; whnf))
  ((repeat (first | refine br_t ?_ | refine br_f ?_ | refine br_not ?_)); first | refine br_lt (fun h => ?_) (fun h => ?_) | refine br_le (fun h => ?_) (fun h => ?_) | refine br_eq (fun h => ?_) (fun h => ?_) | refine br_b (fun h => ?_) (fun h => ?_)) <;> (conv => lhs; whnf)
  · exact res_bool (by simp [leI_eq, h])
  · exact res_bool (by simp; omega)

def smallB (c : Int) : Bool := decide (97 ≤ c ∧ c ≤ 122)
def digitB (c : Int) : Bool := decide (48 ≤ c ∧ c ≤ 57)
theorem ev_isSmall (c : Int) : EV prog cfg 216 [.int .u8 c] [] = some (.bool (smallB c), []) := by
  (refine EV_k rfl func216 (by rw [f216]) (by rw [f216]; rfl) (by rw [f216]; rfl) ?_; rw [ntmps216]; (conv => lhs; whnf))
  ((repeat (first | refine br_t ?_ | refine br_f ?_ | refine br_not ?_)); first | refine br_lt (fun h => ?_) (fun h => ?_) | refine br_le (fun h => ?_) (fun h => ?_) | refine br_eq (fun h => ?_) (fun h => ?_) | refine br_b (fun h => ?_) (fun h => ?_)) <;> (conv => lhs; whnf)
  · exact res_bool (by simp [leI_eq, h, smallB])
  · exact res_bool (by simp [smallB]; omega)

theorem ev_isDigit (c : Int) : EV prog cfg 217 [.int .u8 c] [] = some (.bool (digitB c), []) := by
  (refine EV_k rfl func217 (by rw [f217]) (by rw [f217]; rfl) (by rw [f217]; rfl) ?_; rw [ntmps217]; (conv => lhs; whnf))
  ((repeat (first | refine br_t ?_ | refine br_f ?_ | refine br_not ?_)); first | refine br_lt (fun h => ?_) (fun h => ?_) | refine br_le (fun h => ?_) (fun h => ?_) | refine br_eq (fun h => ?_) (fun h => ?_) | refine br_b (fun h => ?_) (fun h => ?_)) <;> (conv => lhs; whnf)
  · exact res_bool (by simp [leI_eq, h, digitB])
  · exact res_bool (by simp [digitB]; omega)

def nameB (s : ByteArray) : Bool := allFrom (fun i => smallB (bget s i) || digitB (bget s i)) 0 s.size && decide (1 ≤ s.size ∧ s.size ≤ 8) && smallB (bget s 0)
theorem smallB_eq (c : Int) : smallB c = decide (97 ≤ c ∧ c ≤ 122) := rfl
theorem digitB_eq (c : Int) : digitB c = decide (48 ≤ c ∧ c ≤ 57) := rfl
attribute [irreducible] smallB digitB

theorem ev_NameOk (s : ByteArray) (hs : Small s.size) : EV prog cfg 196 [.str s] [] = some (.bool (nameB s), []) := by
  (refine EV_k rfl func196 (by rw [f196]) (by rw [f196]; rfl) (by rw [f196]; rfl) ?_; rw [ntmps196]; (conv => lhs; whnf))
  refine loop_nat (fun z => ⟨[(0, .str s), (5, .int .i64 s.size), (6, .int .i64 z)], []⟩) s.size
    (fun i => some (.bool (allFrom (fun i => smallB (bget s i) || digitB (bget s i)) i s.size && decide (1 ≤ s.size ∧ s.size ≤ 8) && smallB (bget s 0)), [])) rfl rfl ?_
  intro i hi ih
  refine round_of ?_
  (conv => lhs; whnf)
  ((repeat (first | refine br_t ?_ | refine br_f ?_ | refine br_not ?_)); first | refine br_lt (fun h => ?_) (fun h => ?_) | refine br_le (fun h => ?_) (fun h => ?_) | refine br_eq (fun h => ?_) (fun h => ?_) | refine br_b (fun h => ?_) (fun h => ?_)) <;> (conv => lhs; whnf)
  · have hlt : i < s.size := by omega
    rw [allFrom_lt _ hlt]
    (refine vuK_of (v_index_strN rfl rfl rfl (hlt)) ?_; (conv => lhs; whnf))
    (refine vuK_of (v_call rfl rfl (ev_isSmall _) rfl rfl) ?_; (conv => lhs; whnf))
    ((repeat (first | refine br_t ?_ | refine br_f ?_ | refine br_not ?_)); first | refine br_lt (fun h1 => ?_) (fun h1 => ?_) | refine br_le (fun h1 => ?_) (fun h1 => ?_) | refine br_eq (fun h1 => ?_) (fun h1 => ?_) | refine br_b (fun h1 => ?_) (fun h1 => ?_)) <;> (conv => lhs; whnf)
    · refine ih _ _ rfl (wrap_succ hlt (by omega)) hlt |>.trans ?_
      rw [show smallB (bget s i) = true from h1]
      rfl
    · (refine vuK_of (v_index_strN rfl rfl rfl (hlt)) ?_; (conv => lhs; whnf))
      (refine vuK_of (v_call rfl rfl (ev_isDigit _) rfl rfl) ?_; (conv => lhs; whnf))
      ((repeat (first | refine br_t ?_ | refine br_f ?_ | refine br_not ?_)); first | refine br_lt (fun h2 => ?_) (fun h2 => ?_) | refine br_le (fun h2 => ?_) (fun h2 => ?_) | refine br_eq (fun h2 => ?_) (fun h2 => ?_) | refine br_b (fun h2 => ?_) (fun h2 => ?_)) <;> (conv => lhs; whnf)
      · refine ih _ _ rfl (wrap_succ hlt (by omega)) hlt |>.trans ?_
        rw [show digitB (bget s i) = true from h2]
        simp
      · rw [show digitB (bget s i) = false from h2, show smallB (bget s i) = false from h1]
        rfl
  · rw [allFrom_ge _ (by omega)]
    (refine vuK_of (v_call rfl rfl (ev_from _ _ _) rfl rfl) ?_; (conv => lhs; whnf))
    ((repeat (first | refine br_t ?_ | refine br_f ?_ | refine br_not ?_)); first | refine br_lt (fun h1 => ?_) (fun h1 => ?_) | refine br_le (fun h1 => ?_) (fun h1 => ?_) | refine br_eq (fun h1 => ?_) (fun h1 => ?_) | refine br_b (fun h1 => ?_) (fun h1 => ?_)) <;> (conv => lhs; whnf)
    · rw [show decide (1 ≤ s.size ∧ s.size ≤ 8) = true by rw [decide_eq_true_iff] at h1 ⊢; omega]
      have h1 : 1 ≤ (s.size : Int) ∧ (s.size : Int) ≤ 8 := by simpa using h1
      (refine vuK_of (v_index_str0 rfl rfl rfl (by omega)) ?_; (conv => lhs; whnf))
      (refine vuK_of (v_call rfl rfl (ev_isSmall _) rfl rfl) ?_; (conv => lhs; whnf))
      rfl
    · rw [show decide (1 ≤ s.size ∧ s.size ≤ 8) = false by rw [decide_eq_false_iff_not] at h1 ⊢; omega]
      rfl


theorem name_first {s : ByteArray} (h : ∀ i, i < s.size → (smallB (bget s i) || (decide (0 < i) && digitB (bget s i))) = true) (h0 : 0 < s.size) : smallB (bget s 0) = true := by
  have := h 0 h0
  simpa using this

def nameP (s : ByteArray) (i : Nat) : Bool := smallB (bget s i) || (decide (0 < i) && digitB (bget s i))
theorem nameP_eq (s : ByteArray) : (allFrom (nameP s) 0 s.size && decide (1 ≤ s.size ∧ s.size ≤ 8)) = nameB s := by
  rw [Bool.eq_iff_iff]
  simp only [nameB, Bool.and_eq_true, allFrom_iff, decide_eq_true_eq]
  constructor
  · rintro ⟨h1, h2⟩
    refine ⟨⟨fun j _ hj => ?_, h2⟩, name_first (fun i hi => h1 i (Nat.zero_le _) hi) h2.1⟩
    have := h1 j (Nat.zero_le _) hj
    simp only [nameP, Bool.or_eq_true, Bool.and_eq_true] at this ⊢
    exact this.imp id (·.2)
  · rintro ⟨⟨h1, h2⟩, h3⟩
    refine ⟨fun j _ hj => ?_, h2⟩
    have := h1 j (Nat.zero_le _) hj
    simp only [nameP, Bool.or_eq_true, Bool.and_eq_true, decide_eq_true_eq] at this ⊢
    rcases Nat.eq_zero_or_pos j with rfl | hp
    · exact .inl h3
    · exact this.imp id fun h => ⟨hp, h⟩

theorem ev_spec_NameOk (s : ByteArray) (hs : Small s.size) : EV prog cfg 184 [.str s] [] = some (.bool (nameB s), []) := by
  (refine EV_k rfl func184 (by rw [f184]) (by rw [f184]; rfl) (by rw [f184]; rfl) ?_; rw [ntmps184]; (conv => lhs; whnf))
  refine loop_nat (fun z => ⟨[(0, .str s), (3, .int .i64 z)], []⟩) s.size
    (fun i => some (.bool (allFrom (nameP s) i s.size && decide (1 ≤ s.size ∧ s.size ≤ 8)), [])) (by rw [nameP_eq]) rfl ?_
  intro i hi ih
  refine round_of ?_
  (conv => lhs; whnf)
  ((repeat (first | refine br_t ?_ | refine br_f ?_ | refine br_not ?_)); first | refine br_lt (fun h => ?_) (fun h => ?_) | refine br_le (fun h => ?_) (fun h => ?_) | refine br_eq (fun h => ?_) (fun h => ?_) | refine br_b (fun h => ?_) (fun h => ?_)) <;> (conv => lhs; whnf)
  · have hlt : i < s.size := by omega
    rw [allFrom_lt _ hlt]
    (refine vuK_of (v_index_strN rfl rfl rfl (hlt)) ?_; (conv => lhs; whnf))
    repeat (any_goals (first | (refine vuK_of (v_index_strN rfl rfl rfl (hlt)) ?_; (conv => lhs; whnf)) | (((repeat (first | refine br_t ?_ | refine br_f ?_ | refine br_not ?_)); first | refine br_lt (fun hh => ?_) (fun hh => ?_) | refine br_le (fun hh => ?_) (fun hh => ?_) | refine br_eq (fun hh => ?_) (fun hh => ?_) | refine br_b (fun hh => ?_) (fun hh => ?_)) <;> (conv => lhs; whnf))))
    all_goals first
      | (refine (ih _ _ rfl (wrap_succ hlt (by omega)) hlt).trans ?_; rw [show nameP s i = true by (simp [nameP, smallB_eq, digitB_eq]; omega)]; rfl)
      | (rw [show nameP s i = false by (simp [nameP, smallB_eq, digitB_eq]; omega)]; rfl)
      | omega
  · rw [allFrom_ge _ (by omega)]
    (refine vuK_of (v_call rfl rfl (ev_l1In _ _ _) rfl rfl) ?_; (conv => lhs; whnf))
    refine res_bool ?_
    rw [Bool.true_and, decide_eq_decide]
    omega

/-- Where a name stands. -/
def symP (s : List Sym) (nm : ByteArray) (i : Nat) : Bool := decide ((s.map (·.name))[i]? = some nm)
theorem symP_lt {s : List Sym} {nm : ByteArray} {i : Nat} (h : i < s.length) : symP s nm i = decide (s[i].name = nm) := by simp [symP, h]
def symOf (s : List Sym) (nm : ByteArray) : Int := firstFrom (symP s nm) 0 s.length

theorem ev_SymOf_1 (y : Sym) (nm : ByteArray) : EV prog cfg 219 [.agg (cellsS y), .ptr (.out 0) 0] [.box [.str nm]] = some (.bool (decide (y.name = nm)), [.box [.str nm]]) := by
  (refine EV_k rfl func219 (by rw [f219]) (by rw [f219]; rfl) (by rw [f219]; rfl) ?_; rw [ntmps219]; (conv => lhs; whnf))
  rfl

theorem ev_IndexFunc_Sym (s : List Sym) (nm : ByteArray) (hs : Small s.length) :
    EV prog cfg 218 [.sl (rowsS s), .clo 219 [.out 0]] [.box [.str nm]] = some (.int .i64 (symOf s nm), [.box [.str nm]]) := by
  (refine EV_k rfl func218 (by rw [f218]) (by rw [f218]; rfl) (by rw [f218]; rfl) ?_; rw [ntmps218]; (conv => lhs; whnf))
  refine loop_nat (fun z => ⟨[(0, .sl (rowsS s)), (1, .clo 219 [.out 0]), (7, .int .i64 (rowsS s).length), (8, .int .i64 z)], [(.out 0, .box [.str nm])]⟩) s.length
    (fun i => some (.int .i64 (firstFrom (symP s nm) i s.length), [.box [.str nm]])) rfl rfl ?_
  intro i hi ih
  refine round_of ?_
  (conv => lhs; whnf)
  ((repeat (first | refine br_t ?_ | refine br_f ?_ | refine br_not ?_)); first | refine br_lt (fun h => ?_) (fun h => ?_) | refine br_le (fun h => ?_) (fun h => ?_) | refine br_eq (fun h => ?_) (fun h => ?_) | refine br_b (fun h => ?_) (fun h => ?_)) <;> (conv => lhs; whnf) <;> rw [rowsS_length] at h
  · have hlt : i < s.length := by omega
    rw [firstFrom_lt _ hlt, symP_lt hlt]
    (refine vuK_of (v_idx (rowsS_get hlt) rfl rfl rfl rfl) ?_; (conv => lhs; whnf))
    (refine vuK_of (v_call rfl rfl (ev_SymOf_1 s[i] nm) rfl rfl) ?_; (conv => lhs; whnf))
    ((repeat (first | refine br_t ?_ | refine br_f ?_ | refine br_not ?_)); first | refine br_lt (fun h1 => ?_) (fun h1 => ?_) | refine br_le (fun h1 => ?_) (fun h1 => ?_) | refine br_eq (fun h1 => ?_) (fun h1 => ?_) | refine br_b (fun h1 => ?_) (fun h1 => ?_)) <;> (conv => lhs; whnf)
    · rw [if_pos h1]; rfl
    · rw [if_neg (by rw [h1]; simp)]
      exact ih _ _ rfl (wrap_succ hlt (by omega)) hlt
  · rw [firstFrom_ge _ (by omega)]; rfl

theorem ev_SymOf (s : List Sym) (nm : ByteArray) (hs : Small s.length) :
    EV prog cfg 197 [.sl (rowsS s), .str nm] [] = some (.int .i64 (symOf s nm), []) := by
  (refine EV_k rfl func197 (by rw [f197]) (by rw [f197]; rfl) (by rw [f197]; rfl) ?_; rw [ntmps197]; (conv => lhs; whnf))
  (refine vuK_of (v_call rfl rfl (ev_IndexFunc_Sym _ _ hs) rfl rfl) ?_; (conv => lhs; whnf))
  rfl

theorem ev_spec_SymOf (s : List Sym) (nm : ByteArray) (hs : Small s.length) :
    EV prog cfg 185 [.sl (rowsS s), .str nm] [] = some (.int .i64 (symOf s nm), []) := by
  (refine EV_k rfl func185 (by rw [f185]) (by rw [f185]; rfl) (by rw [f185]; rfl) ?_; rw [ntmps185]; (conv => lhs; whnf))
  refine loop_nat (fun z => ⟨[(0, .sl (rowsS s)), (1, .str nm), (5, .int .i64 z)], []⟩) s.length
    (fun i => some (.int .i64 (firstFrom (symP s nm) i s.length), [])) rfl rfl ?_
  intro i hi ih
  refine round_of ?_
  (conv => lhs; whnf)
  ((repeat (first | refine br_t ?_ | refine br_f ?_ | refine br_not ?_)); first | refine br_lt (fun h => ?_) (fun h => ?_) | refine br_le (fun h => ?_) (fun h => ?_) | refine br_eq (fun h => ?_) (fun h => ?_) | refine br_b (fun h => ?_) (fun h => ?_)) <;> (conv => lhs; whnf) <;> rw [rowsS_length] at h
  · have hlt : i < s.length := by omega
    rw [firstFrom_lt _ hlt, symP_lt hlt]
    (refine vuK_of (v_idx (rowsS_get hlt) rfl rfl rfl rfl) ?_; (conv => lhs; whnf))
    ((repeat (first | refine br_t ?_ | refine br_f ?_ | refine br_not ?_)); first | refine br_lt (fun h1 => ?_) (fun h1 => ?_) | refine br_le (fun h1 => ?_) (fun h1 => ?_) | refine br_eq (fun h1 => ?_) (fun h1 => ?_) | refine br_b (fun h1 => ?_) (fun h1 => ?_)) <;> (conv => lhs; whnf)
    · rw [if_pos h1]; rfl
    · rw [if_neg (by rw [h1]; simp)]
      exact ih _ _ rfl (wrap_succ hlt (by omega)) hlt
  · rw [firstFrom_ge _ (by omega)]; rfl

/-! ### Signatures -/
def SigSmall (s : List Sym) : Prop := Small s.length ∧ ∀ y ∈ s, Small y.name.size
def sigP (s : List Sym) (i : Nat) : Bool := match s[i]? with
  | some y => nameB y.name && decide (symOf s y.name = i) && decide (0 ≤ y.arity ∧ y.arity ≤ 3) && (!y.ac || decide (y.arity = 2))
  | none => false
theorem sigP_lt {s : List Sym} {i : Nat} (h : i < s.length) : sigP s i = (nameB s[i].name && decide (symOf s s[i].name = i) && decide (0 ≤ s[i].arity ∧ s[i].arity ≤ 3) && (!s[i].ac || decide (s[i].arity = 2))) := by simp [sigP, h]
def ttB : ByteArray := ⟨#[116, 116]⟩
def sigB (s : List Sym) : Bool := allFrom (sigP s) 0 s.length && decide (1 ≤ s.length ∧ s.length ≤ 8) && decide ((s.map (·.name))[0]? = some ttB) && decide ((s.map (·.arity))[0]? = some 0)

theorem ev_SigOk (s : List Sym) (hs : SigSmall s) : EV prog cfg 140 [.sl (rowsS s)] [] = some (.bool (sigB s), []) := by
  (refine EV_k rfl func140 (by rw [f140]) (by rw [f140]; rfl) (by rw [f140]; rfl) ?_; rw [ntmps140]; (conv => lhs; whnf))
  refine loop_nat (fun z => ⟨[(0, .sl (rowsS s)), (5, .sl (rowsS s)), (6, .int .i64 (rowsS s).length), (7, .int .i64 z)], []⟩) s.length
    (fun i => some (.bool (allFrom (sigP s) i s.length && decide (1 ≤ s.length ∧ s.length ≤ 8) && decide ((s.map (·.name))[0]? = some ttB) && decide ((s.map (·.arity))[0]? = some 0)), [])) rfl rfl ?_
  intro i hi ih
  refine round_of ?_
  (conv => lhs; whnf)
  ((repeat (first | refine br_t ?_ | refine br_f ?_ | refine br_not ?_)); first | refine br_lt (fun h => ?_) (fun h => ?_) | refine br_le (fun h => ?_) (fun h => ?_) | refine br_eq (fun h => ?_) (fun h => ?_) | refine br_b (fun h => ?_) (fun h => ?_)) <;> (conv => lhs; whnf) <;> rw [rowsS_length] at h
  · have hlt : i < s.length := by omega
    rw [allFrom_lt _ hlt, sigP_lt hlt]
    (refine vuK_of (v_idx (rowsS_get hlt) rfl rfl rfl rfl) ?_; (conv => lhs; whnf))
    have hm : s[i] ∈ s := List.getElem_mem hlt
    have hsl := hs.1
    (repeat (any_goals (first | (refine vuK_of (v_call rfl rfl (ev_NameOk _ (hs.2 _ hm)) rfl rfl) ?_; (conv => lhs; whnf)) | (refine vuK_of (v_call rfl rfl (ev_SymOf _ _ hs.1) rfl rfl) ?_; (conv => lhs; whnf)) | (refine vuK_of (v_call rfl rfl (ev_from _ _ _) rfl rfl) ?_; (conv => lhs; whnf)) | (((repeat (first | refine br_t ?_ | refine br_f ?_ | refine br_not ?_)); first | refine br_lt (fun hh => ?_) (fun hh => ?_) | refine br_le (fun hh => ?_) (fun hh => ?_) | refine br_eq (fun hh => ?_) (fun hh => ?_) | refine br_b (fun hh => ?_) (fun hh => ?_)) <;> (conv => lhs; whnf)))))
    all_goals first | (refine res_bool ?_; (try clear ih); first | (simp_all [eqI_eq, leI_eq, ltI_eq]; done) | (simp_all [eqI_eq, leI_eq, ltI_eq]; intros; omega) | (simp_all [eqI_eq, leI_eq, ltI_eq]; grind)) | (refine (ih _ _ rfl (wrap_succ hlt (by omega)) hlt).trans ?_; clear ih; first | (simp_all [eqI_eq, leI_eq, ltI_eq]; done) | (simp_all [eqI_eq, leI_eq, ltI_eq]; intros; omega) | (simp_all [eqI_eq, leI_eq, ltI_eq]; grind))
  · rw [allFrom_ge _ (by omega)]
    (refine vuK_of (v_call rfl rfl (ev_from _ _ _) rfl rfl) ?_; (conv => lhs; whnf))
    ((repeat (first | refine br_t ?_ | refine br_f ?_ | refine br_not ?_)); first | refine br_lt (fun h1 => ?_) (fun h1 => ?_) | refine br_le (fun h1 => ?_) (fun h1 => ?_) | refine br_eq (fun h1 => ?_) (fun h1 => ?_) | refine br_b (fun h1 => ?_) (fun h1 => ?_)) <;> (conv => lhs; whnf)
    · have h1 : 1 ≤ ((rowsS s).length : Int) ∧ ((rowsS s).length : Int) ≤ 8 := by simpa using h1
      rw [rowsS_length] at h1
      have h0 : 0 < s.length := by omega
      (repeat (any_goals (first | (refine vuK_of (v_idx0 (rowsS_get h0) rfl rfl rfl rfl) ?_; (conv => lhs; whnf)) | (((repeat (first | refine br_t ?_ | refine br_f ?_ | refine br_not ?_)); first | refine br_lt (fun hh => ?_) (fun hh => ?_) | refine br_le (fun hh => ?_) (fun hh => ?_) | refine br_eq (fun hh => ?_) (fun hh => ?_) | refine br_b (fun hh => ?_) (fun hh => ?_)) <;> (conv => lhs; whnf)))))
      all_goals (simp only [ttB]; (refine res_bool ?_; (try clear ih); first | (simp_all [eqI_eq, leI_eq, ltI_eq]; done) | (simp_all [eqI_eq, leI_eq, ltI_eq]; intros; omega) | (simp_all [eqI_eq, leI_eq, ltI_eq]; grind)))
    · refine res_bool ?_
      rw [rowsS_length] at h1
      rw [decide_eq_false_iff_not] at h1
      rw [show decide (1 ≤ s.length ∧ s.length ≤ 8) = false by rw [decide_eq_false_iff_not]; omega]
      rfl

def headB (s : List Sym) : Bool := match s[0]? with
  | some y => decide (y.name = ttB) && decide (y.arity = 0) && !y.ac
  | none => false
theorem headB_eq (s : List Sym) : (allFrom (sigP s) 0 s.length && decide (1 ≤ s.length ∧ s.length ≤ 8) && headB s) = sigB s := by
  rw [sigB, Bool.and_assoc (_ && _)]
  rw [Bool.eq_iff_iff]
  rw [Bool.and_eq_true, Bool.and_eq_true (allFrom _ _ _ && _)]
  refine and_congr_right fun h12 => ?_
  rw [Bool.and_eq_true, decide_eq_true_eq] at h12
  obtain ⟨h1, h2⟩ := h12
  have h0 : 0 < s.length := by omega
  have := (allFrom_iff _ _ _).1 h1 0 (Nat.le_refl _) h0
  rw [sigP_lt h0] at this
  simp only [headB, List.getElem?_eq_getElem h0, List.getElem?_map, Option.map_some, Option.some.injEq, Bool.and_eq_true, decide_eq_true_eq, Bool.not_eq_true']
  simp only [Bool.and_eq_true, Bool.or_eq_true, Bool.not_eq_true', decide_eq_true_eq] at this
  constructor
  · rintro ⟨⟨h3, h4⟩, h5⟩; exact ⟨h3, h4⟩
  · rintro ⟨h3, h4⟩
    refine ⟨⟨h3, h4⟩, ?_⟩
    rcases this.2 with h | h
    · exact h
    · omega

theorem ev_spec_SigOk (s : List Sym) (hs : SigSmall s) : EV prog cfg 126 [.sl (rowsS s)] [] = some (.bool (sigB s), []) := by
  (refine EV_k rfl func126 (by rw [f126]) (by rw [f126]; rfl) (by rw [f126]; rfl) ?_; rw [ntmps126]; (conv => lhs; whnf))
  refine loop_nat (fun z => ⟨[(0, .sl (rowsS s)), (3, .int .i64 z)], []⟩) s.length
    (fun i => some (.bool (allFrom (sigP s) i s.length && decide (1 ≤ s.length ∧ s.length ≤ 8) && headB s), [])) (by rw [headB_eq]) rfl ?_
  intro i hi ih
  refine round_of ?_
  (conv => lhs; whnf)
  ((repeat (first | refine br_t ?_ | refine br_f ?_ | refine br_not ?_)); first | refine br_lt (fun h => ?_) (fun h => ?_) | refine br_le (fun h => ?_) (fun h => ?_) | refine br_eq (fun h => ?_) (fun h => ?_) | refine br_b (fun h => ?_) (fun h => ?_)) <;> (conv => lhs; whnf) <;> rw [rowsS_length] at h
  · have hlt : i < s.length := by omega
    rw [allFrom_lt _ hlt, sigP_lt hlt]
    have hm : s[i] ∈ s := List.getElem_mem hlt
    have hsl := hs.1
    (repeat (any_goals (first | (refine vuK_of (v_idx (rowsS_get hlt) rfl rfl rfl rfl) ?_; (conv => lhs; whnf)) | (refine vuK_of (v_call rfl rfl (ev_spec_NameOk _ (hs.2 _ hm)) rfl rfl) ?_; (conv => lhs; whnf)) | (refine vuK_of (v_call rfl rfl (ev_spec_SymOf _ _ hs.1) rfl rfl) ?_; (conv => lhs; whnf)) | (refine vuK_of (v_call rfl rfl (ev_l1In _ _ _) rfl rfl) ?_; (conv => lhs; whnf)) | (((repeat (first | refine br_t ?_ | refine br_f ?_ | refine br_not ?_)); first | refine br_lt (fun hh => ?_) (fun hh => ?_) | refine br_le (fun hh => ?_) (fun hh => ?_) | refine br_eq (fun hh => ?_) (fun hh => ?_) | refine br_b (fun hh => ?_) (fun hh => ?_)) <;> (conv => lhs; whnf)))))
    all_goals first | (refine res_bool ?_; (try clear ih); first | (simp_all [eqI_eq, leI_eq, ltI_eq]; done) | (simp_all [eqI_eq, leI_eq, ltI_eq]; intros; omega) | (simp_all [eqI_eq, leI_eq, ltI_eq]; grind)) | (refine (ih _ _ rfl (wrap_succ hlt (by omega)) hlt).trans ?_; clear ih; first | (simp_all [eqI_eq, leI_eq, ltI_eq]; done) | (simp_all [eqI_eq, leI_eq, ltI_eq]; intros; omega) | (simp_all [eqI_eq, leI_eq, ltI_eq]; grind))
  · rw [allFrom_ge _ (by omega)]
    (refine vuK_of (v_call rfl rfl (ev_l1In _ _ _) rfl rfl) ?_; (conv => lhs; whnf))
    ((repeat (first | refine br_t ?_ | refine br_f ?_ | refine br_not ?_)); first | refine br_lt (fun h1 => ?_) (fun h1 => ?_) | refine br_le (fun h1 => ?_) (fun h1 => ?_) | refine br_eq (fun h1 => ?_) (fun h1 => ?_) | refine br_b (fun h1 => ?_) (fun h1 => ?_)) <;> (conv => lhs; whnf)
    · have h1 : 1 ≤ ((rowsS s).length : Int) ∧ ((rowsS s).length : Int) ≤ 8 := by simpa using h1
      rw [rowsS_length] at h1
      have h0 : 0 < s.length := by omega
      (repeat (any_goals (first | (refine vuK_of (v_idx0 (rowsS_get h0) rfl rfl rfl rfl) ?_; (conv => lhs; whnf)) | (((repeat (first | refine br_t ?_ | refine br_f ?_ | refine br_not ?_)); first | refine br_lt (fun hh => ?_) (fun hh => ?_) | refine br_le (fun hh => ?_) (fun hh => ?_) | refine br_eq (fun hh => ?_) (fun hh => ?_) | refine br_b (fun hh => ?_) (fun hh => ?_)) <;> (conv => lhs; whnf)))))
      refine res_bool (z := samesA (cellsS s[0]) [.str ttB, .int .i64 0, .bool false]) ?_
      simp only [headB, List.getElem?_eq_getElem h0, samesA, cellsS, sameA, Bool.and_true, Bool.true_and]
      rw [show decide (1 ≤ s.length ∧ s.length ≤ 8) = true by rw [decide_eq_true_iff]; omega]
      cases s[0].ac <;> simp
    · refine res_bool ?_
      rw [rowsS_length] at h1
      rw [decide_eq_false_iff_not] at h1
      rw [show decide (1 ≤ s.length ∧ s.length ≤ 8) = false by rw [decide_eq_false_iff_not]; omega]
      rfl

theorem ev_isSym (s : List Sym) (f : Int) (hs : Small s.length) : EV prog cfg 211 [.sl (rowsS s), .int .i64 f] [] = some (.bool (decide (0 ≤ f ∧ f < s.length)), []) := by
  (refine EV_k rfl func211 (by rw [f211]) (by rw [f211]; rfl) (by rw [f211]; rfl) ?_; rw [ntmps211]; (conv => lhs; whnf))
  (refine vuK_of (v_call rfl rfl (ev_from _ _ _) rfl rfl) ?_; (conv => lhs; whnf))
  refine res_bool ?_
  rw [rowsS_length, wrap_ok (by omega) (by omega), decide_eq_decide]
  omega

/-- What stands at a function's number. -/
def acAt (s : List Sym) (f : Int) : Bool := decide (0 ≤ f) && (match s[f.toNat]? with
  | some y => y.ac
  | none => false)
theorem acAt_out {s : List Sym} {f : Int} (h : ¬ (0 ≤ f ∧ f < s.length)) : acAt s f = false := by
  unfold acAt
  by_cases h0 : 0 ≤ f
  · rw [List.getElem?_eq_none (by omega)]; simp
  · simp [h0]

theorem ev_Blind (s : List Sym) (f : Int) (hs : Small s.length) : EV prog cfg 181 [.sl (rowsS s), .int .i64 f] [] = some (.bool (acAt s f), []) := by
  (refine EV_k rfl func181 (by rw [f181]) (by rw [f181]; rfl) (by rw [f181]; rfl) ?_; rw [ntmps181]; (conv => lhs; whnf))
  (refine vuK_of (v_call rfl rfl (ev_isSym _ _ hs) rfl rfl) ?_; (conv => lhs; whnf))
  ((repeat (first | refine br_t ?_ | refine br_f ?_ | refine br_not ?_)); first | refine br_lt (fun h => ?_) (fun h => ?_) | refine br_le (fun h => ?_) (fun h => ?_) | refine br_eq (fun h => ?_) (fun h => ?_) | refine br_b (fun h => ?_) (fun h => ?_)) <;> (conv => lhs; whnf)
  · have h : 0 ≤ f ∧ f < s.length := by simpa using h
    obtain ⟨n, rfl⟩ := Int.eq_ofNat_of_zero_le h.1
    have hn : n < s.length := by omega
    (refine vuK_of (v_idx (rowsS_get hn) rfl rfl rfl rfl) ?_; (conv => lhs; whnf))
    refine res_bool (z := s[n].ac) ?_
    simp [acAt, hn]
  · refine res_bool (z := false) ?_
    rw [acAt_out (by simpa using h)]

theorem ev_spec_Blind (s : List Sym) (f : Int) (hs : Small s.length) : EV prog cfg 200 [.sl (rowsS s), .int .i64 f] [] = some (.bool (acAt s f), []) := by
  (refine EV_k rfl func200 (by rw [f200]) (by rw [f200]; rfl) (by rw [f200]; rfl) ?_; rw [ntmps200]; (conv => lhs; whnf))
  (refine vuK_of (v_call rfl rfl (ev_l1In _ _ _) rfl rfl) ?_; (conv => lhs; whnf))
  ((repeat (first | refine br_t ?_ | refine br_f ?_ | refine br_not ?_)); first | refine br_lt (fun h => ?_) (fun h => ?_) | refine br_le (fun h => ?_) (fun h => ?_) | refine br_eq (fun h => ?_) (fun h => ?_) | refine br_b (fun h => ?_) (fun h => ?_)) <;> (conv => lhs; whnf)
  · have h : 0 ≤ f ∧ f ≤ IntKind.wrap .i64 ((rowsS s).length - 1) := by simpa using h
    rw [rowsS_length, wrap_ok (by omega) (by omega)] at h
    obtain ⟨n, rfl⟩ := Int.eq_ofNat_of_zero_le h.1
    have hn : n < s.length := by omega
    (refine vuK_of (v_idx (rowsS_get hn) rfl rfl rfl rfl) ?_; (conv => lhs; whnf))
    refine res_bool (z := s[n].ac) ?_
    simp [acAt, hn]
  · refine res_bool (z := false) ?_
    rw [rowsS_length, wrap_ok (by omega) (by omega)] at h
    rw [acAt_out (by rw [decide_eq_false_iff_not] at h; omega)]
end Go.Proofs.Tryz
