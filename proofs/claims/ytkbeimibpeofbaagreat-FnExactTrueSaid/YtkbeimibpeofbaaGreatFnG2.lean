/- Worlds as they must be: the tables. -/
import Derived.Test.YtkbeimibpeofbaaGreatFnG
set_option linter.unusedSimpArgs false
set_option linter.unusedVariables false
namespace Go.Proofs.Tryz
open Go Go.Sim Go.Braid

section
variable {cfg : Cfg} {fi : Nat} {call : FuncId → List AV → List Ob → Option (AV × List Ob)} {env : List (Nat × AV)} {obs : List (Ref × Ob)} {dst : Option Nat}
theorem v_shl {t t' : TypeId} {x y : Operand} {k j : IntKind} {a b : Int} (hb : 0 ≤ b) (hx : opA env x = .int k a) (hy : opA env y = .int j b) : opV cfg fi call dst env obs (.binOp .shl t x y t') = some (.int k (k.wrap (a * 2 ^ (min b.toNat k.bits))), []) := by
  simp only [opV, hx, hy, binF, hb, if_true, Option.map_some]
theorem v_shr {t t' : TypeId} {x y : Operand} {k j : IntKind} {a b : Int} (hb : 0 ≤ b) (hx : opA env x = .int k a) (hy : opA env y = .int j b) : opV cfg fi call dst env obs (.binOp .shr t x y t') = some (.int k (a.fdiv (2 ^ (min b.toNat k.bits))), []) := by
  simp only [opV, hx, hy, binF, hb, if_true, Option.map_some]
end

def inB (size x : Int) : Bool := decide (0 ≤ x ∧ x < size)
theorem ev_WorldOk_1 (x size : Int) (tabs : AV) (l : List (List AV)) (ht : tabs = .sl l) (h1 : 1 ≤ size) (h4 : size ≤ 4) :
    EV prog cfg 143 [.int .i64 x, .ptr (.out 0) 0] [.box [.int .i64 size, tabs]] = some (.bool (!inB size x), [.box [.int .i64 size, tabs]]) := by
  subst ht
  (refine EV_k rfl func143 (by rw [f143]) (by rw [f143]; rfl) (by rw [f143]; rfl) ?_; rw [ntmps143]; (conv => lhs; whnf))
  (refine vuK_of (v_call rfl rfl (ev_from _ _ _) rfl rfl) ?_; (conv => lhs; whnf))
  have hd : decide (0 ≤ x ∧ x ≤ IntKind.wrap .i64 (size - 1)) = inB size x := by rw [wrap_ok (by omega) (by omega), inB, decide_eq_decide]; omega
  rw [← hd]
  rfl
def outP (size : Int) (t : List Int) (i : Nat) : Bool := match t[i]? with
  | some x => !inB size x
  | none => false
theorem ev_IndexFunc_W (t : List Int) (size : Int) (l : List (List AV)) (hl : Small t.length) (h1 : 1 ≤ size) (h4 : size ≤ 4) :
    EV prog cfg 160 [.sl (rowsI t), .clo 143 [.out 0]] [.box [.int .i64 size, .sl l]] = some (.int .i64 (firstFrom (outP size t) 0 t.length), [.box [.int .i64 size, .sl l]]) := by
  (refine EV_k rfl func160 (by rw [f160]) (by rw [f160]; rfl) (by rw [f160]; rfl) ?_; rw [ntmps160]; (conv => lhs; whnf))
  refine loop_nat (fun z => ⟨[(0, .sl (rowsI t)), (1, .clo 143 [.out 0]), (7, .int .i64 (rowsI t).length), (8, .int .i64 z)], [(.out 0, .box [.int .i64 size, .sl l])]⟩) t.length
    (fun i => some (.int .i64 (firstFrom (outP size t) i t.length), [.box [.int .i64 size, .sl l]])) rfl rfl ?_
  intro i hi ih
  refine round_of ?_
  (conv => lhs; whnf)
  ((repeat (first | refine br_t ?_ | refine br_f ?_ | refine br_not ?_)); first | refine br_lt (fun h5 => ?_) (fun h5 => ?_) | refine br_le (fun h5 => ?_) (fun h5 => ?_) | refine br_eq (fun h5 => ?_) (fun h5 => ?_) | refine br_b (fun h5 => ?_) (fun h5 => ?_)) <;> (conv => lhs; whnf) <;> rw [rowsI_length] at h5
  · have hlt : i < t.length := by omega
    have hg : outP size t i = !inB size t[i] := by simp [outP, hlt]
    rw [firstFrom_lt _ hlt, hg]
    (refine vuK_of (v_idx (rowsI_get hlt) rfl rfl rfl rfl) ?_; (conv => lhs; whnf))
    (refine vuK_of (v_call rfl rfl (ev_WorldOk_1 t[i] size _ l rfl h1 h4) rfl rfl) ?_; (conv => lhs; whnf))
    ((repeat (first | refine br_t ?_ | refine br_f ?_ | refine br_not ?_)); first | refine br_lt (fun h6 => ?_) (fun h6 => ?_) | refine br_le (fun h6 => ?_) (fun h6 => ?_) | refine br_eq (fun h6 => ?_) (fun h6 => ?_) | refine br_b (fun h6 => ?_) (fun h6 => ?_)) <;> (conv => lhs; whnf)
    · rw [h6]
      exact ih _ _ rfl (wrap_succ hlt (by omega)) hlt
    · rw [h6]; rfl
  · rw [firstFrom_ge _ (by omega)]; rfl
theorem ev_ContainsFunc_W (t : List Int) (size : Int) (l : List (List AV)) (hl : Small t.length) (h1 : 1 ≤ size) (h4 : size ≤ 4) :
    EV prog cfg 142 [.sl (rowsI t), .clo 143 [.out 0]] [.box [.int .i64 size, .sl l]] = some (.bool (!t.all (inB size)), [.box [.int .i64 size, .sl l]]) := by
  (refine EV_k rfl func142 (by rw [f142]) (by rw [f142]; rfl) (by rw [f142]; rfl) ?_; rw [ntmps142]; (conv => lhs; whnf))
  (refine vuK_of (v_call rfl rfl (ev_IndexFunc_W t size l hl h1 h4) rfl rfl) ?_; (conv => lhs; whnf))
  have hd : leI 0 (firstFrom (outP size t) 0 t.length) = !t.all (inB size) := by
    rw [leI_eq, Bool.eq_iff_iff, decide_eq_true_iff, first_nonneg _ _ _ _ rfl]
    simp only [Bool.not_eq_true', List.all_eq_false]
    constructor
    · rintro ⟨j, _, hj, hp⟩
      rw [outP, List.getElem?_eq_getElem hj] at hp
      exact ⟨_, List.getElem_mem hj, by simpa using hp⟩
    · rintro ⟨x, hx, hp⟩
      obtain ⟨j, hj, rfl⟩ := List.getElem_of_mem hx
      exact ⟨j, Nat.zero_le _, hj, by rw [outP, List.getElem?_eq_getElem hj]; simpa using hp⟩
  rw [← hd]
  rfl

structure Wd where
  size : Int
  tables : List (List Int)
def cellsW (w : Wd) : List AV := [.int .i64 w.size, .sl (rowsII w.tables)]
def WdSmall (l : List (List Int)) : Prop := Small l.length ∧ ∀ t ∈ l, Small t.length
/-- A table as it must be. -/
def tabB (size : Int) (y : Sym) (t : List Int) : Bool := decide ((t.length : Int) = size ^ y.arity.toNat) && t.all (inB size) && (!y.ac || indB t size)
def tabP (s : List Sym) (w : Wd) (i : Nat) : Bool := match s[i]?, w.tables[i]? with
  | some y, some t => tabB w.size y t
  | _, _ => false
def worldB (s : List Sym) (w : Wd) : Bool := sigB s && decide (1 ≤ w.size ∧ w.size ≤ 4) && decide (w.tables.length = s.length) && allFrom (tabP s w) 0 s.length
theorem sig_arity {s : List Sym} (h : sigB s = true) {i : Nat} (hi : i < s.length) : 0 ≤ s[i].arity ∧ s[i].arity ≤ 3 ∧ (s[i].ac = true → s[i].arity = 2) := by
  simp only [sigB, Bool.and_eq_true] at h
  have := (allFrom_iff _ _ _).1 h.1.1.1 i (Nat.zero_le _) hi
  rw [sigP_lt hi] at this
  simp only [Bool.and_eq_true, decide_eq_true_eq, Bool.or_eq_true, Bool.not_eq_true'] at this
  refine ⟨this.1.2.1, this.1.2.2, fun h => ?_⟩
  rcases this.2 with h2 | h2
  · rw [h] at h2; cases h2
  · exact h2

set_option maxHeartbeats 2000000 in
theorem ev_WorldOk (s : List Sym) (hs : SigSmall s) (w : Wd) (hw : WdSmall w.tables) : EV prog cfg 62 [.sl (rowsS s), .agg (cellsW w)] [] = some (.bool (worldB s w), []) := by
  have hsl := hs.1
  have hwl := hw.1
  (refine EV_k rfl func62 (by rw [f62]) (by rw [f62]; rfl) (by rw [f62]; rfl) ?_; rw [ntmps62]; (conv => lhs; whnf))
  (refine vuK_of (v_call rfl rfl (ev_SigOk s hs) rfl rfl) ?_; (conv => lhs; whnf))
  ((repeat (first | refine br_t ?_ | refine br_f ?_ | refine br_not ?_)); first | refine br_lt (fun h1 => ?_) (fun h1 => ?_) | refine br_le (fun h1 => ?_) (fun h1 => ?_) | refine br_eq (fun h1 => ?_) (fun h1 => ?_) | refine br_b (fun h1 => ?_) (fun h1 => ?_)) <;> (conv => lhs; whnf)
  · (refine vuK_of (v_call rfl rfl (ev_from _ _ _) rfl rfl) ?_; (conv => lhs; whnf))
    ((repeat (first | refine br_t ?_ | refine br_f ?_ | refine br_not ?_)); first | refine br_lt (fun h2 => ?_) (fun h2 => ?_) | refine br_le (fun h2 => ?_) (fun h2 => ?_) | refine br_eq (fun h2 => ?_) (fun h2 => ?_) | refine br_b (fun h2 => ?_) (fun h2 => ?_)) <;> (conv => lhs; whnf)
    · ((repeat (first | refine br_t ?_ | refine br_f ?_ | refine br_not ?_)); first | refine br_lt (fun h3 => ?_) (fun h3 => ?_) | refine br_le (fun h3 => ?_) (fun h3 => ?_) | refine br_eq (fun h3 => ?_) (fun h3 => ?_) | refine br_b (fun h3 => ?_) (fun h3 => ?_)) <;> (conv => lhs; whnf) <;> rw [rowsII_length, rowsS_length] at h3
      · have hl : w.tables.length = s.length := by omega
        have h2' : 1 ≤ w.size ∧ w.size ≤ 4 := by simpa using h2
        rw [worldB, h1, h2, decide_eq_true hl]
        refine loop_nat (fun z => ⟨[(3, .ptr (.loc 0 0) 0), (25, .sl (rowsS s)), (26, .int .i64 (rowsS s).length), (27, .int .i64 z)], [(.loc 0 0, .box (cellsW w))]⟩) s.length
          (fun i => some (.bool (allFrom (tabP s w) i s.length), [])) rfl rfl ?_
        intro i hi ih
        refine round_of ?_
        (conv => lhs; whnf)
        ((repeat (first | refine br_t ?_ | refine br_f ?_ | refine br_not ?_)); first | refine br_lt (fun h5 => ?_) (fun h5 => ?_) | refine br_le (fun h5 => ?_) (fun h5 => ?_) | refine br_eq (fun h5 => ?_) (fun h5 => ?_) | refine br_b (fun h5 => ?_) (fun h5 => ?_)) <;> (conv => lhs; whnf) <;> rw [rowsS_length] at h5
        · have hlt : i < s.length := by omega
          have hlt2 : i < w.tables.length := by omega
          have har := sig_arity h1 hlt
          have htl := hw.2 _ (List.getElem_mem hlt2)
          have hg : tabP s w i = tabB w.size s[i] w.tables[i] := by simp [tabP, hlt, hlt2]
          rw [allFrom_lt _ hlt, hg, tabB]
          generalize hy : s[i] = y at har
          generalize ht : w.tables[i] = t at htl
          have hrs : (rowsS s)[i]? = some (cellsS y) := by rw [rowsS_get hlt, hy]
          have hrt : (rowsII w.tables)[i]? = some [.sl (rowsI t)] := by rw [rowsII_get hlt2, ht]
          (refine vuK_of (v_idx (hrs) rfl rfl rfl rfl) ?_; (conv => lhs; whnf))
          (refine vuK_of (v_idx (hrt) rfl rfl rfl rfl) ?_; (conv => lhs; whnf))
          (refine vuK_of (v_call rfl rfl (ev_placesOf w.size y.arity h2'.1 h2'.2 har.1 har.2.1) rfl rfl) ?_; (conv => lhs; whnf))
          ((repeat (first | refine br_t ?_ | refine br_f ?_ | refine br_not ?_)); first | refine br_lt (fun h6 => ?_) (fun h6 => ?_) | refine br_le (fun h6 => ?_) (fun h6 => ?_) | refine br_eq (fun h6 => ?_) (fun h6 => ?_) | refine br_b (fun h6 => ?_) (fun h6 => ?_)) <;> (conv => lhs; whnf) <;> rw [rowsI_length] at h6
          · rw [decide_eq_true h6]
            (refine vuK_of (v_call rfl rfl (ev_ContainsFunc_W t w.size (rowsII w.tables) htl h2'.1 h2'.2) rfl rfl) ?_; (conv => lhs; whnf))
            ((repeat (first | refine br_t ?_ | refine br_f ?_ | refine br_not ?_)); first | refine br_lt (fun h7 => ?_) (fun h7 => ?_) | refine br_le (fun h7 => ?_) (fun h7 => ?_) | refine br_eq (fun h7 => ?_) (fun h7 => ?_) | refine br_b (fun h7 => ?_) (fun h7 => ?_)) <;> (conv => lhs; whnf)
            · rw [h7]
              ((repeat (first | refine br_t ?_ | refine br_f ?_ | refine br_not ?_)); first | refine br_lt (fun h8 => ?_) (fun h8 => ?_) | refine br_le (fun h8 => ?_) (fun h8 => ?_) | refine br_eq (fun h8 => ?_) (fun h8 => ?_) | refine br_b (fun h8 => ?_) (fun h8 => ?_)) <;> (conv => lhs; whnf)
              · have h2a : y.arity = 2 := har.2.2 h8
                have hsq : Sq w.size t := ⟨h2'.1, h2'.2, by rw [h6, h2a]; show w.size ^ 2 = _; rw [Int.pow_succ, Int.pow_succ, Int.pow_zero, Int.one_mul], fun x hx => by
                  have := List.all_eq_true.1 h7 x hx
                  simpa [inB] using this⟩
                (refine vuK_of (v_call rfl rfl (ev_indifferent w.size t hsq) rfl rfl) ?_; (conv => lhs; whnf))
                ((repeat (first | refine br_t ?_ | refine br_f ?_ | refine br_not ?_)); first | refine br_lt (fun h9 => ?_) (fun h9 => ?_) | refine br_le (fun h9 => ?_) (fun h9 => ?_) | refine br_eq (fun h9 => ?_) (fun h9 => ?_) | refine br_b (fun h9 => ?_) (fun h9 => ?_)) <;> (conv => lhs; whnf)
                · rw [h9, h8]
                  exact (ih _ _ rfl (wrap_succ hlt (by omega)) hlt).trans rfl
                · rw [h9, h8]; rfl
              · rw [h8]
                exact (ih _ _ rfl (wrap_succ hlt (by omega)) hlt).trans rfl
            · rw [h7]
              refine res_bool (z := false) ?_
              simp
          · rw [decide_eq_false h6]; rfl
        · rw [allFrom_ge _ (by omega)]; rfl
      · refine res_bool (z := false) ?_
        rw [worldB, decide_eq_false (show ¬ w.tables.length = s.length by omega), Bool.and_false, Bool.false_and]
    · refine res_bool (z := false) ?_
      rw [worldB, h2, Bool.and_false, Bool.false_and, Bool.false_and]
  · refine res_bool (z := false) ?_
    rw [worldB, h1, Bool.false_and, Bool.false_and, Bool.false_and]

/-! ### Models -/
def mdl (ts : List (List Int)) : Wd := ⟨2, ts⟩
theorem ev_asWorld (ts : List (List Int)) : EV prog cfg 104 [.agg [.sl (rowsII ts)]] [] = some (.agg [.int .i64 2, .sl (rowsII ts)], []) := by
  (refine EV_k rfl func104 (by rw [f104]) (by rw [f104]; rfl) (by rw [f104]; rfl) ?_; rw [ntmps104]; (conv => lhs; whnf))
  rfl
theorem ev_ModelOk (s : List Sym) (hs : SigSmall s) (ts : List (List Int)) (hw : WdSmall ts) : EV prog cfg 40 [.sl (rowsS s), .agg [.sl (rowsII ts)]] [] = some (.bool (worldB s (mdl ts)), []) := by
  (refine EV_k rfl func40 (by rw [f40]) (by rw [f40]; rfl) (by rw [f40]; rfl) ?_; rw [ntmps40]; (conv => lhs; whnf))
  (refine vuK_of (v_call rfl rfl (ev_asWorld ts) rfl rfl) ?_; (conv => lhs; whnf))
  (refine vuK_of (v_call rfl rfl (ev_WorldOk s hs (mdl ts) hw) rfl rfl) ?_; (conv => lhs; whnf))
  rfl

theorem ev_l21Two (ts : List (List Int)) (f a b : Int) (t : List Int) (hf : 0 ≤ f) (ht : ts[f.toNat]? = some t) (h : Sq 2 t) (ha : 0 ≤ a ∧ a < 2) (hb : 0 ≤ b ∧ b < 2) :
    EV prog cfg 186 [.agg [.sl (rowsII ts)], .int .i64 f, .int .i64 a, .int .i64 b] [] = some (.int .i64 (ofT t 2 a b), []) := by
  have h0 := sq_at h ha hb
  have h1 := ofT_get h ha hb
  have hw : IntKind.wrap .i64 (a + IntKind.wrap .i64 (2 * b)) = a + 2 * b := by rw [wrap_ok (z := 2 * b) (by omega) (by omega), wrap_ok (by omega) (by omega)]
  have hg : (rowsI t)[(IntKind.wrap .i64 (a + IntKind.wrap .i64 (2 * b))).toNat]? = some [.int .i64 (ofT t 2 a b)] := by rw [hw, rowsI, List.getElem?_map, h1.1]; rfl
  have hg0 : 0 ≤ IntKind.wrap .i64 (a + IntKind.wrap .i64 (2 * b)) := by rw [hw]; exact h0.1
  have hft : (rowsII ts)[f.toNat]? = some [.sl (rowsI t)] := by rw [rowsII, List.getElem?_map, ht]; rfl
  (refine EV_k rfl func186 (by rw [f186]) (by rw [f186]; rfl) (by rw [f186]; rfl) ?_; rw [ntmps186]; (conv => lhs; whnf))
  (refine vuK_of (v_index_sl rfl rfl rfl hft hf rfl) ?_; (conv => lhs; whnf))
  (refine vuK_of (v_index_sl rfl rfl rfl hg hg0 rfl) ?_; (conv => lhs; whnf))
  rfl

def indQ (t : List Int) (i : Nat) : Bool := decide (ofT t 2 (ofT t 2 (i % 2 : Nat) (i / 2 % 2 : Nat)) (i / 4 : Nat) = ofT t 2 (i % 2 : Nat) (ofT t 2 (i / 2 % 2 : Nat) (i / 4 : Nat)))
theorem indQ_eq (t : List Int) : (decide (ofT t 2 0 1 = ofT t 2 1 0) && allFrom (indQ t) 0 8) = indB t 2 := by
  rw [Bool.eq_iff_iff]
  simp only [Bool.and_eq_true, decide_eq_true_eq, indB, indA, indBB, indC, indQ, allFrom_iff, show (2 : Int).toNat = 2 from rfl]
  constructor
  · rintro ⟨h1, h2⟩ a _ ha b _ hb c _ hc
    refine ⟨?_, ?_⟩
    · have ea : a = 0 ∨ a = 1 := by omega
      have eb : b = 0 ∨ b = 1 := by omega
      rcases ea with rfl | rfl <;> rcases eb with rfl | rfl <;> first | rfl | exact h1 | exact h1.symm
    · have := h2 (a + 2 * b + 4 * c) (Nat.zero_le _) (by omega)
      rw [show (a + 2 * b + 4 * c) % 2 = a by omega, show (a + 2 * b + 4 * c) / 2 % 2 = b by omega, show (a + 2 * b + 4 * c) / 4 = c by omega] at this
      exact this
  · intro h
    refine ⟨(h 0 (Nat.zero_le _) (by omega) 1 (Nat.zero_le _) (by omega) 0 (Nat.zero_le _) (by omega)).1, fun i _ hi => ?_⟩
    exact (h (i % 2) (Nat.zero_le _) (by omega) (i / 2 % 2) (Nat.zero_le _) (by omega) (i / 4) (Nat.zero_le _) (by omega)).2

set_option maxHeartbeats 2000000 in
theorem ev_l21Blind (ts : List (List Int)) (f : Int) (t : List Int) (hf : 0 ≤ f) (ht : ts[f.toNat]? = some t) (h : Sq 2 t) :
    EV prog cfg 128 [.agg [.sl (rowsII ts)], .int .i64 f] [] = some (.bool (indB t 2), []) := by
  have k0 : (0 : Int) ≤ 0 ∧ (0 : Int) < 2 := by omega
  have k1 : (0 : Int) ≤ 1 ∧ (1 : Int) < 2 := by omega
  rw [← indQ_eq]
  (refine EV_k rfl func128 (by rw [f128]) (by rw [f128]; rfl) (by rw [f128]; rfl) ?_; rw [ntmps128]; (conv => lhs; whnf))
  (refine vuK_of (v_call rfl rfl (ev_l21Two ts f 0 1 t hf ht h k0 k1) rfl rfl) ?_; (conv => lhs; whnf))
  (refine vuK_of (v_call rfl rfl (ev_l21Two ts f 1 0 t hf ht h k1 k0) rfl rfl) ?_; (conv => lhs; whnf))
  ((repeat (first | refine br_t ?_ | refine br_f ?_ | refine br_not ?_)); first | refine br_lt (fun h1 => ?_) (fun h1 => ?_) | refine br_le (fun h1 => ?_) (fun h1 => ?_) | refine br_eq (fun h1 => ?_) (fun h1 => ?_) | refine br_b (fun h1 => ?_) (fun h1 => ?_)) <;> (conv => lhs; whnf)
  · rw [decide_eq_true h1]
    refine loop_nat (fun z => ⟨[(1, .int .i64 f), (2, .ptr (.loc 0 0) 0), (5, .int .i64 z)], [(.loc 0 0, .box [.sl (rowsII ts)])]⟩) 8 (fun i => some (.bool (allFrom (indQ t) i 8), [])) rfl rfl ?_
    intro i hi ih
    refine round_of ?_
    (conv => lhs; whnf)
    ((repeat (first | refine br_t ?_ | refine br_f ?_ | refine br_not ?_)); first | refine br_lt (fun h5 => ?_) (fun h5 => ?_) | refine br_le (fun h5 => ?_) (fun h5 => ?_) | refine br_eq (fun h5 => ?_) (fun h5 => ?_) | refine br_b (fun h5 => ?_) (fun h5 => ?_)) <;> (conv => lhs; whnf)
    · have hlt : i < 8 := by omega
      rw [allFrom_lt _ hlt]
      have ea : ((i : Int).tmod 2) = ((i % 2 : Nat) : Int) := by rw [Int.tmod_eq_emod_of_nonneg (by omega)]; omega
      have eb : ((IntKind.wrap .i64 ((i : Int).tdiv 2)).tmod 2) = ((i / 2 % 2 : Nat) : Int) := by rw [Int.tdiv_eq_ediv_of_nonneg (by omega), wrap_ok (by omega) (by omega), Int.tmod_eq_emod_of_nonneg (by omega)]; omega
      have ec : (IntKind.wrap .i64 ((i : Int).tdiv 4)) = ((i / 4 : Nat) : Int) := by rw [Int.tdiv_eq_ediv_of_nonneg (by omega), wrap_ok (by omega) (by omega)]; omega
      have ka : (0 : Int) ≤ ((i % 2 : Nat) : Int) ∧ ((i % 2 : Nat) : Int) < 2 := by omega
      have kb : (0 : Int) ≤ ((i / 2 % 2 : Nat) : Int) ∧ ((i / 2 % 2 : Nat) : Int) < 2 := by omega
      have kc : (0 : Int) ≤ ((i / 4 : Nat) : Int) ∧ ((i / 4 : Nat) : Int) < 2 := by omega
      have kab := (ofT_get h ka kb).2
      have kbc := (ofT_get h kb kc).2
      have h1 := ev_l21Two ts f _ _ t hf ht h ka kb
      have h2 := ev_l21Two ts f _ _ t hf ht h kab kc
      have h3 := ev_l21Two ts f _ _ t hf ht h kb kc
      have h4 := ev_l21Two ts f _ _ t hf ht h ka kbc
      rw [indQ]
      rw [← ea, ← eb] at h1
      rw [← ea, ← eb, ← ec] at h2
      rw [← eb, ← ec] at h3
      rw [← ea, ← eb, ← ec] at h4
      rw [← ea, ← eb, ← ec]
      (refine vuK_of (v_call rfl rfl (h1) rfl rfl) ?_; (conv => lhs; whnf))
      (refine vuK_of (v_call rfl rfl (h2) rfl rfl) ?_; (conv => lhs; whnf))
      (refine vuK_of (v_call rfl rfl (h3) rfl rfl) ?_; (conv => lhs; whnf))
      (refine vuK_of (v_call rfl rfl (h4) rfl rfl) ?_; (conv => lhs; whnf))
      ((repeat (first | refine br_t ?_ | refine br_f ?_ | refine br_not ?_)); first | refine br_lt (fun h6 => ?_) (fun h6 => ?_) | refine br_le (fun h6 => ?_) (fun h6 => ?_) | refine br_eq (fun h6 => ?_) (fun h6 => ?_) | refine br_b (fun h6 => ?_) (fun h6 => ?_)) <;> (conv => lhs; whnf)
      · rw [decide_eq_true h6]
        exact (ih _ _ rfl (wrap_succ hlt (by omega)) hlt).trans rfl
      · rw [decide_eq_false h6]; rfl
    · rw [allFrom_ge _ (by omega)]; rfl
  · rw [decide_eq_false h1]; rfl

theorem two_pow {k : Nat} (h : k ≤ 3) : IntKind.wrap .i64 (1 * 2 ^ (min k 64)) = 2 ^ k := by
  have : k = 0 ∨ k = 1 ∨ k = 2 ∨ k = 3 := by omega
  rcases this with rfl | rfl | rfl | rfl <;> decide

set_option maxHeartbeats 4000000 in
theorem ev_spec_ModelOk (s : List Sym) (hs : SigSmall s) (ts : List (List Int)) (hw : WdSmall ts) : EV prog cfg 49 [.sl (rowsS s), .agg [.sl (rowsII ts)]] [] = some (.bool (worldB s (mdl ts)), []) := by
  have hsl := hs.1
  have hwl := hw.1
  (refine EV_k rfl func49 (by rw [f49]) (by rw [f49]; rfl) (by rw [f49]; rfl) ?_; rw [ntmps49]; (conv => lhs; whnf))
  (refine vuK_of (v_call rfl rfl (ev_spec_SigOk s hs) rfl rfl) ?_; (conv => lhs; whnf))
  ((repeat (first | refine br_t ?_ | refine br_f ?_ | refine br_not ?_)); first | refine br_lt (fun h1 => ?_) (fun h1 => ?_) | refine br_le (fun h1 => ?_) (fun h1 => ?_) | refine br_eq (fun h1 => ?_) (fun h1 => ?_) | refine br_b (fun h1 => ?_) (fun h1 => ?_)) <;> (conv => lhs; whnf)
  · ((repeat (first | refine br_t ?_ | refine br_f ?_ | refine br_not ?_)); first | refine br_lt (fun h3 => ?_) (fun h3 => ?_) | refine br_le (fun h3 => ?_) (fun h3 => ?_) | refine br_eq (fun h3 => ?_) (fun h3 => ?_) | refine br_b (fun h3 => ?_) (fun h3 => ?_)) <;> (conv => lhs; whnf) <;> rw [rowsII_length, rowsS_length] at h3
    · have hl : ts.length = s.length := by omega
      rw [worldB, h1, show decide (1 ≤ (mdl ts).size ∧ (mdl ts).size ≤ 4) = true from decide_eq_true (show (1 : Int) ≤ 2 ∧ (2 : Int) ≤ 4 by omega), show decide ((mdl ts).tables.length = s.length) = true from decide_eq_true hl]
      refine loop_nat (fun z => ⟨[(0, .sl (rowsS s)), (3, .ptr (.loc 0 0) 0), (5, .int .i64 z)], [(.loc 0 0, .box [.sl (rowsII ts)])]⟩) s.length
        (fun i => some (.bool (allFrom (tabP s (mdl ts)) i s.length), [])) rfl rfl ?_
      intro i hi ih
      refine round_of ?_
      (conv => lhs; whnf)
      ((repeat (first | refine br_t ?_ | refine br_f ?_ | refine br_not ?_)); first | refine br_lt (fun h5 => ?_) (fun h5 => ?_) | refine br_le (fun h5 => ?_) (fun h5 => ?_) | refine br_eq (fun h5 => ?_) (fun h5 => ?_) | refine br_b (fun h5 => ?_) (fun h5 => ?_)) <;> (conv => lhs; whnf) <;> rw [rowsS_length] at h5
      · have hlt : i < s.length := by omega
        have hlt2 : i < ts.length := by omega
        have har := sig_arity h1 hlt
        have htl := hw.2 _ (List.getElem_mem hlt2)
        have hlt3 : i < (mdl ts).tables.length := hlt2
        have hg : tabP s (mdl ts) i = tabB 2 s[i] ts[i] := by
          simp only [tabP, List.getElem?_eq_getElem hlt, List.getElem?_eq_getElem hlt3]; rfl
        have htt : ts[((i : Nat) : Int).toNat]? = some ts[i] := List.getElem?_eq_getElem hlt2
        rw [allFrom_lt _ hlt, hg, tabB]
        generalize hy : s[i] = y at har
        generalize ht : ts[i] = t at htl htt
        have hrs : (rowsS s)[i]? = some (cellsS y) := by rw [rowsS_get hlt, hy]
        have hrt : (rowsII ts)[i]? = some [.sl (rowsI t)] := by rw [← ht]; exact rowsII_get hlt2
        (refine vuK_of (v_idx (hrt) rfl rfl rfl rfl) ?_; (conv => lhs; whnf))
        (refine vuK_of (v_idx (hrs) rfl rfl rfl rfl) ?_; (conv => lhs; whnf))
        refine vuK_of (v_shl har.1 rfl rfl) ?_
        (conv => lhs; whnf)
        ((repeat (first | refine br_t ?_ | refine br_f ?_ | refine br_not ?_)); first | refine br_lt (fun h6 => ?_) (fun h6 => ?_) | refine br_le (fun h6 => ?_) (fun h6 => ?_) | refine br_eq (fun h6 => ?_) (fun h6 => ?_) | refine br_b (fun h6 => ?_) (fun h6 => ?_)) <;> (conv => lhs; whnf)
        · rw [rowsI_length] at h6
          have h6 : (t.length : Int) = 2 ^ y.arity.toNat := h6.trans (two_pow (by omega))
          rw [decide_eq_true h6, Bool.true_and]
          refine loop_for (β := Unit) (fun z _ => ⟨[(0, .sl (rowsS s)), (3, .ptr (.loc 0 0) 0), (5, .int .i64 i), (6, .int .i64 z)], [(.loc 0 0, .box [.sl (rowsII ts)])]⟩) t.length (fun j _ => ∀ x ∈ t.take j, inB 2 x = true)
            (fun j _ => some (.bool ((t.drop j).all (inB 2) && (!y.ac || indB t 2) && allFrom (tabP s (mdl ts)) (i + 1) s.length), [])) () rfl rfl (by simp) ?_
          intro j _ hj hJ jh
          refine round_of ?_
          (conv => lhs; whnf)
          (refine vuK_of (v_idx (hrt) rfl rfl rfl rfl) ?_; (conv => lhs; whnf))
          ((repeat (first | refine br_t ?_ | refine br_f ?_ | refine br_not ?_)); first | refine br_lt (fun h7 => ?_) (fun h7 => ?_) | refine br_le (fun h7 => ?_) (fun h7 => ?_) | refine br_eq (fun h7 => ?_) (fun h7 => ?_) | refine br_b (fun h7 => ?_) (fun h7 => ?_)) <;> (conv => lhs; whnf) <;> rw [rowsI_length] at h7
          · have hlj : j < t.length := by omega
            rw [List.drop_eq_getElem_cons hlj, List.all_cons]
            (refine vuK_of (v_idx (hrt) rfl rfl rfl rfl) ?_; (conv => lhs; whnf))
            (refine vuK_of (v_idx (rowsI_get hlj) rfl rfl rfl rfl) ?_; (conv => lhs; whnf))
            (refine vuK_of (v_call rfl rfl (ev_l1In _ _ _) rfl rfl) ?_; (conv => lhs; whnf))
            have hd : decide (0 ≤ t[j] ∧ t[j] ≤ 1) = inB 2 t[j] := by rw [inB, decide_eq_decide]; omega
            rw [hd]
            ((repeat (first | refine br_t ?_ | refine br_f ?_ | refine br_not ?_)); first | refine br_lt (fun h8 => ?_) (fun h8 => ?_) | refine br_le (fun h8 => ?_) (fun h8 => ?_) | refine br_eq (fun h8 => ?_) (fun h8 => ?_) | refine br_b (fun h8 => ?_) (fun h8 => ?_)) <;> (conv => lhs; whnf)
            · rw [h8]
              refine (jh _ _ () rfl (wrap_succ hlj (by omega)) hlj (fun x hx => ?_)).trans rfl
              rw [List.take_succ_eq_append_getElem hlj] at hx
              rcases List.mem_append.1 hx with hx | hx
              · exact hJ x hx
              · rw [List.mem_singleton.1 hx]; exact h8
            · rw [h8]; rfl
          · have hall : ∀ x ∈ t, inB 2 x = true := by rwa [List.take_of_length_le (by omega)] at hJ
            rw [List.drop_eq_nil_of_le (by omega), List.all_nil, Bool.true_and]
            (refine vuK_of (v_idx (hrs) rfl rfl rfl rfl) ?_; (conv => lhs; whnf))
            ((repeat (first | refine br_t ?_ | refine br_f ?_ | refine br_not ?_)); first | refine br_lt (fun h8 => ?_) (fun h8 => ?_) | refine br_le (fun h8 => ?_) (fun h8 => ?_) | refine br_eq (fun h8 => ?_) (fun h8 => ?_) | refine br_b (fun h8 => ?_) (fun h8 => ?_)) <;> (conv => lhs; whnf)
            · have h2a : y.arity = 2 := har.2.2 h8
              have hsq : Sq 2 t := ⟨by omega, by omega, by rw [h6, h2a]; rfl, fun x hx => by simpa [inB] using hall x hx⟩
              (refine vuK_of (v_call rfl rfl (ev_l21Blind ts i t (by omega) htt hsq) rfl rfl) ?_; (conv => lhs; whnf))
              ((repeat (first | refine br_t ?_ | refine br_f ?_ | refine br_not ?_)); first | refine br_lt (fun h9 => ?_) (fun h9 => ?_) | refine br_le (fun h9 => ?_) (fun h9 => ?_) | refine br_eq (fun h9 => ?_) (fun h9 => ?_) | refine br_b (fun h9 => ?_) (fun h9 => ?_)) <;> (conv => lhs; whnf)
              · rw [h9, h8]
                exact (ih _ _ rfl (wrap_succ hlt (by omega)) hlt).trans rfl
              · rw [h9, h8]; rfl
            · rw [h8]
              exact (ih _ _ rfl (wrap_succ hlt (by omega)) hlt).trans rfl
        · refine res_bool (z := false) ?_
          rw [rowsI_length] at h6
          have h6 : ¬ (t.length : Int) = 2 ^ y.arity.toNat := fun e => h6 (e.trans (two_pow (by omega)).symm)
          rw [decide_eq_false h6]; rfl
      · rw [allFrom_ge _ (by omega)]; rfl
    · refine res_bool (z := false) ?_
      rw [worldB, show decide ((mdl ts).tables.length = s.length) = false from decide_eq_false (show ¬ ts.length = s.length by omega), Bool.and_false, Bool.false_and]
  · refine res_bool (z := false) ?_
    rw [worldB, h1, Bool.false_and, Bool.false_and, Bool.false_and]
end Go.Proofs.Tryz
