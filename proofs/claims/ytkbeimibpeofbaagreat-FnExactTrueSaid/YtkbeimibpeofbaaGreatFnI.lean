/- Whatever the variables are: the program's own way. -/
import Derived.Test.YtkbeimibpeofbaaGreatFnH
set_option linter.unusedSimpArgs false
set_option linter.unusedVariables false
namespace Go.Proofs.Tryz
open Go Go.Sim Go.Braid

section
variable {cfg : Cfg} {fi : Nat} {call : FuncId → List AV → List Ob → Option (AV × List Ob)} {env : List (Nat × AV)} {obs : List (Ref × Ob)} {dst : Option Nat}
/-- In a slice of one's own that may be written. -/
theorem v_idx_wr {t e : TypeId} {eti : TI} {x y : Operand} {r : Ref} {m e' sz : Nat} {rows : List (List AV)} {k : IntKind} {i : Int} (h0 : 0 ≤ i) (h1 : i < m) (hm : rows.length = m) (hE : elemT cfg.tab t = some (e, eti)) (hx : opA env x = .own r m)
    (ho : lookR obs r = some (.arr e' sz rows true)) (hy : opA env y = .int k i) (hsz : sz = eti.size) : opV cfg fi call dst env obs (.indexAddr t x y) = some (.eptr r m i.toNat 0, []) := by
  rw [← evAV_opA] at hx hy
  show stepV cfg fi call (.indexAddr t x y) dst env obs = _
  simp only [stepV, stepOp, hE, indexS, hy, hx, ho, h0, h1, hm, hsz, decide_true, beq_self_eq_true, Bool.and_self, when, if_true, Option.map_some]
theorem v_load_e {t : TypeId} {ti : TI} {x : Operand} {r : Ref} {m i off e sz : Nat} {rows : List (List AV)} {row : List AV} {wr : Bool} (hi : rows[i]? = some row) (hm : rows.length = m) (hx : opA env x = .eptr r m i off) (ho : lookR obs r = some (.arr e sz rows wr))
    (ht : Go.Sim.look cfg.tab t = some ti) (h0 : 0 < ti.size) (hl : off + ti.size ≤ row.length) : opV cfg fi call dst env obs (.load t x) = some (segV ti row off, []) := by
  rw [← opV_eq]
  rw [← evAV_opA] at hx
  simp only [stepV, stepOp, ht, h0, if_true, loadS, hx, ho, hi, hm, hl, decide_true, Bool.and_self, when, Option.map_some]
theorem v_store_int {t : TypeId} {ti : TI} {x y : Operand} {r : Ref} {m i e sz : Nat} {rows rows' : List (List AV)} {v0 : AV} {kk : IntKind} {n : Int} (hi : rows[i]? = some [v0]) (hm : rows.length = m) (hr : rows.set i [.int kk n] = rows')
    (hx : opA env x = .eptr r m i 0) (ho : lookR obs r = some (.arr e sz rows true)) (hy : opA env y = .int kk n) (ht : Go.Sim.look cfg.tab t = some ti) (h0 : ti.size = 1) :
    opV cfg fi call none env obs (.store t x y) = some (.junk, [(r, .arr e sz rows' true)]) := by
  rw [← evAV_opA] at hx hy
  subst hr
  show stepV cfg fi call (.store t x y) none env obs = _
  simp only [stepV, stepOp, ht, Option.isNone_none, if_true, storeS, hx, hy, ho, hi, cellsA, List.length_cons, List.length_nil, h0, hm]
  simp [when, frzS, Step.freeze, clB, splice, clS]
end

def soB (s : List Sym) (w : Wd) (env : List Int) (l : Lt) : Bool := decide (meansT s w env l.l = meansT s w env l.r) == l.pos
def someB (s : List Sym) (w : Wd) (env : List Int) (c : List Lt) : Bool := c.any (soB s w env)
def Good (s : List Sym) (c : List Lt) : Prop := ∀ l ∈ c, formB s l.l = true ∧ formB s l.r = true

theorem ev_someHolds_1 {s : List Sym} (hs : Small s.length) {w : Wd} (hw : worldB s w = true) (env : List Int) (he : Small env.length) (l : Lt) (hl : LitSmall l) (hf : formB s l.l = true ∧ formB s l.r = true) :
    EV prog cfg 203 [.agg (cellsL l), .ptr (.out 0) 0, .ptr (.out 1) 0, .ptr (.out 2) 0] [.box [.sl (rowsS s)], .box (cellsW w), .box [.sl (rowsI env)]] =
      some (.bool (soB s w env l), [.box [.sl (rowsS s)], .box (cellsW w), .box [.sl (rowsI env)]]) := by
  (refine EV_k rfl func203 (by rw [f203]) (by rw [f203]; rfl) (by rw [f203]; rfl) ?_; rw [ntmps203]; (conv => lhs; whnf))
  (refine vuK_of (v_call rfl rfl (ev_means hs hw env he l.l hl.1 hf.1) rfl rfl) ?_; (conv => lhs; whnf))
  (refine vuK_of (v_call rfl rfl (ev_means hs hw env he l.r hl.2 hf.2) rfl rfl) ?_; (conv => lhs; whnf))
  rw [soB, ← eqI_eq]
  rfl
def soP (s : List Sym) (w : Wd) (env : List Int) (c : List Lt) (i : Nat) : Bool := match c[i]? with
  | some l => soB s w env l
  | none => false
set_option maxHeartbeats 4000000 in
theorem ev_IndexFunc_so {s : List Sym} (hs : Small s.length) {w : Wd} (hw : worldB s w = true) (env : List Int) (he : Small env.length) (c : List Lt) (hc : ClSmall c) (hg : Good s c) :
    EV prog cfg 168 [.sl (rowsL c), .clo 203 [.out 0, .out 1, .out 2]] [.box [.sl (rowsS s)], .box (cellsW w), .box [.sl (rowsI env)]] =
      some (.int .i64 (firstFrom (soP s w env c) 0 c.length), [.box [.sl (rowsS s)], .box (cellsW w), .box [.sl (rowsI env)]]) := by
  have hcl := hc.len
  (refine EV_k rfl func168 (by rw [f168]) (by rw [f168]; rfl) (by rw [f168]; rfl) ?_; rw [ntmps168]; (conv => lhs; whnf))
  refine loop_nat (fun z => ⟨[(0, .sl (rowsL c)), (1, .clo 203 [.out 0, .out 1, .out 2]), (7, .int .i64 (rowsL c).length), (8, .int .i64 z)], [(.out 0, .box [.sl (rowsS s)]), (.out 1, .box (cellsW w)), (.out 2, .box [.sl (rowsI env)])]⟩) c.length
    (fun i => some (.int .i64 (firstFrom (soP s w env c) i c.length), [.box [.sl (rowsS s)], .box (cellsW w), .box [.sl (rowsI env)]])) rfl rfl ?_
  intro i hi ih
  refine round_of ?_
  (conv => lhs; whnf)
  ((repeat (first | refine br_t ?_ | refine br_f ?_ | refine br_not ?_)); first | refine br_lt (fun h5 => ?_) (fun h5 => ?_) | refine br_le (fun h5 => ?_) (fun h5 => ?_) | refine br_eq (fun h5 => ?_) (fun h5 => ?_) | refine br_b (fun h5 => ?_) (fun h5 => ?_)) <;> (conv => lhs; whnf) <;> rw [rowsL_length] at h5
  · have hlt : i < c.length := by omega
    have hm : c[i] ∈ c := List.getElem_mem hlt
    have hp : soP s w env c i = soB s w env c[i] := by simp [soP, hlt]
    rw [firstFrom_lt _ hlt, hp]
    (refine vuK_of (v_idx (rowsL_get hlt) rfl rfl rfl rfl) ?_; (conv => lhs; whnf))
    (refine vuK_of (v_call rfl rfl (ev_someHolds_1 hs hw env he c[i] (hc.lit hm) (hg _ hm)) rfl rfl) ?_; (conv => lhs; whnf))
    ((repeat (first | refine br_t ?_ | refine br_f ?_ | refine br_not ?_)); first | refine br_lt (fun h6 => ?_) (fun h6 => ?_) | refine br_le (fun h6 => ?_) (fun h6 => ?_) | refine br_eq (fun h6 => ?_) (fun h6 => ?_) | refine br_b (fun h6 => ?_) (fun h6 => ?_)) <;> (conv => lhs; whnf)
    · rw [h6]; rfl
    · rw [h6]
      exact ih _ _ rfl (wrap_succ hlt (by omega)) hlt
  · rw [firstFrom_ge _ (by omega)]; rfl
set_option maxHeartbeats 4000000 in
theorem ev_ContainsFunc_so {s : List Sym} (hs : Small s.length) {w : Wd} (hw : worldB s w = true) (env : List Int) (he : Small env.length) (c : List Lt) (hc : ClSmall c) (hg : Good s c) :
    EV prog cfg 98 [.sl (rowsL c), .clo 203 [.out 0, .out 1, .out 2]] [.box [.sl (rowsS s)], .box (cellsW w), .box [.sl (rowsI env)]] =
      some (.bool (someB s w env c), [.box [.sl (rowsS s)], .box (cellsW w), .box [.sl (rowsI env)]]) := by
  (refine EV_k rfl func98 (by rw [f98]) (by rw [f98]; rfl) (by rw [f98]; rfl) ?_; rw [ntmps98]; (conv => lhs; whnf))
  (refine vuK_of (v_call rfl rfl (ev_IndexFunc_so hs hw env he c hc hg) rfl rfl) ?_; (conv => lhs; whnf))
  have hd : leI 0 (firstFrom (soP s w env c) 0 c.length) = someB s w env c := by
    rw [leI_eq, Bool.eq_iff_iff, decide_eq_true_iff, first_nonneg _ _ _ _ rfl, someB, List.any_eq_true]
    constructor
    · rintro ⟨j, _, hj, hp⟩
      rw [soP, List.getElem?_eq_getElem hj] at hp
      exact ⟨_, List.getElem_mem hj, hp⟩
    · rintro ⟨x, hx, hp⟩
      obtain ⟨j, hj, rfl⟩ := List.getElem_of_mem hx
      exact ⟨j, Nat.zero_le _, hj, by rw [soP, List.getElem?_eq_getElem hj]; exact hp⟩
  rw [← hd]
  rfl
set_option maxHeartbeats 4000000 in
theorem ev_someHolds {s : List Sym} (hs : Small s.length) {w : Wd} (hw : worldB s w = true) (env : List Int) (he : Small env.length) (c : List Lt) (hc : ClSmall c) (hg : Good s c) :
    EV prog cfg 164 [.sl (rowsS s), .agg (cellsW w), .agg [.sl (rowsL c)], .sl (rowsI env)] [] = some (.bool (someB s w env c), []) := by
  (refine EV_k rfl func164 (by rw [f164]) (by rw [f164]; rfl) (by rw [f164]; rfl) ?_; rw [ntmps164]; (conv => lhs; whnf))
  (refine vuK_of (v_call rfl rfl (ev_ContainsFunc_so hs hw env he c hc hg) rfl rfl) ?_; (conv => lhs; whnf))
  rfl

/-! ### A choice for each variable, by number -/
def envF (vars : List Int) (g : Nat → Int) : List Int := (List.range 100).map fun (v : Nat) => if vars.idxOf (v : Int) < vars.length then g (vars.idxOf (v : Int)) else 0
theorem envF_len (vars : List Int) (g : Nat → Int) : (envF vars g).length = 100 := by simp [envF]
structure VarsOk (vars : List Int) : Prop where
  nodup : vars.Nodup
  mem : ∀ v ∈ vars, 0 ≤ v ∧ v ≤ 99
theorem idxOf_at {vars : List Int} (h : vars.Nodup) {i : Nat} (hi : i < vars.length) : vars.idxOf vars[i] = i := by
  have h1 : vars.idxOf vars[i] < vars.length := List.idxOf_lt_length_of_mem (List.getElem_mem hi)
  have h2 : vars[vars.idxOf vars[i]] = vars[i] := List.getElem_idxOf h1
  exact (List.getElem_inj h).1 h2
theorem envF_at {vars : List Int} (h : VarsOk vars) (g : Nat → Int) {i : Nat} (hi : i < vars.length) : (envF vars g)[(vars[i]).toNat]? = some (g i) := by
  have hv := h.mem _ (List.getElem_mem hi)
  have hlt : (vars[i]).toNat < 100 := by omega
  rw [envF, List.getElem?_map, List.getElem?_range hlt]
  simp only [Option.map_some]
  rw [show (((vars[i]).toNat : Nat) : Int) = vars[i] by omega, idxOf_at h.nodup hi, if_pos hi]
def updG (g : Nat → Int) (i : Nat) (x : Int) : Nat → Int := fun j => if j = i then x else g j
theorem envF_set {vars : List Int} (h : VarsOk vars) (g : Nat → Int) {i : Nat} (hi : i < vars.length) (x : Int) : (envF vars g).set (vars[i]).toNat x = envF vars (updG g i x) := by
  have hv := h.mem _ (List.getElem_mem hi)
  apply List.ext_getElem?
  intro v
  rw [List.getElem?_set]
  by_cases hlt : v < 100
  · simp only [envF, List.getElem?_map, List.getElem?_range hlt, Option.map_some, List.length_map, List.length_range]
    by_cases he : (vars[i]).toNat = v
    · rw [if_pos he, if_pos (by omega)]
      rw [show ((v : Nat) : Int) = vars[i] by omega, idxOf_at h.nodup hi, if_pos hi]
      simp [updG]
    · rw [if_neg he]
      congr 1
      by_cases hm : vars.idxOf (v : Int) < vars.length
      · rw [if_pos hm, if_pos hm, updG]
        have hne : vars.idxOf (v : Int) ≠ i := by
          intro e
          have h2 : vars[vars.idxOf (v : Int)] = (v : Int) := List.getElem_idxOf hm
          have h3 : vars[i] = (v : Int) := by rw [← h2]; congr 1; exact e.symm
          omega
        rw [if_neg hne]
      · rw [if_neg hm, if_neg hm]
  · rw [List.getElem?_eq_none (by rw [envF_len]; omega), List.getElem?_eq_none (by rw [envF_len]; omega)]
    split
    · split
      · rename_i h1 h2; rw [envF_len] at h2; omega
      · rfl
    · rfl
theorem envF_congr {vars : List Int} {g g' : Nat → Int} (h : ∀ i, i < vars.length → g i = g' i) : envF vars g = envF vars g' := by
  unfold envF
  refine List.map_congr_left fun v _ => ?_
  split
  · rename_i h1; exact h _ h1
  · rfl

def dig (z N i : Nat) : Nat := N / z ^ i % z
theorem dig_succ (z N i : Nat) : dig z N (i + 1) = dig z (N / z) i := by
  unfold dig
  rw [Nat.pow_succ, Nat.mul_comm, ← Nat.div_div_eq_div_mul]
theorem dig_zero (z N : Nat) : dig z N 0 = N % z := by simp [dig]
theorem dig_lt {z : Nat} (hz : 0 < z) (N i : Nat) : dig z N i < z := Nat.mod_lt _ hz
theorem succ_mod {z N : Nat} (hz : 0 < z) (h : N % z = z - 1) : (N + 1) % z = 0 ∧ (N + 1) / z = N / z + 1 := by
  have h1 := Nat.div_add_mod N z
  have h2 : N + 1 = z * (N / z + 1) := by rw [Nat.mul_add]; omega
  rw [h2]
  exact ⟨Nat.mul_mod_right _ _, Nat.mul_div_cancel_left _ hz⟩
theorem succ_mod' {z N : Nat} (hz : 0 < z) (h : N % z ≠ z - 1) : (N + 1) % z = N % z + 1 ∧ (N + 1) / z = N / z := by
  have h0 := Nat.mod_lt N hz
  have h1 := Nat.div_add_mod N z
  have h2 : N + 1 = (N % z + 1) + z * (N / z) := by omega
  have h3 : N % z + 1 < z := by omega
  constructor
  · conv => lhs; rw [h2]
    rw [Nat.add_mul_mod_self_left, Nat.mod_eq_of_lt h3]
  · conv => lhs; rw [h2]
    rw [Nat.add_mul_div_left _ _ hz, Nat.div_eq_of_lt h3, Nat.zero_add]
/-- One more. -/
theorem dig_next {z : Nat} (hz : 0 < z) : ∀ (a N : Nat), (∀ i, i < a → dig z N i = z - 1) → dig z N a ≠ z - 1 → ∀ i, dig z (N + 1) i = if i < a then 0 else if i = a then dig z N a + 1 else dig z N i
  | 0, N, _, h2, i => by
    rw [dig_zero] at h2 ⊢
    obtain ⟨h3, h4⟩ := succ_mod' hz h2
    cases i with
    | zero => rw [dig_zero, h3]; simp
    | succ i => rw [dig_succ, h4, dig_succ]; simp
  | a + 1, N, h1, h2, i => by
    have h0 := h1 0 (by omega)
    rw [dig_zero] at h0
    obtain ⟨h3, h4⟩ := succ_mod hz h0
    rw [dig_succ] at h2
    have ih := dig_next hz a (N / z) (fun i hi => by have := h1 (i + 1) (by omega); rwa [dig_succ] at this) h2
    cases i with
    | zero => rw [dig_zero, h3]; simp
    | succ i => rw [dig_succ, h4, ih i, dig_succ, dig_succ]; simp
theorem dig_all {z : Nat} (hz : 0 < z) : ∀ (n N : Nat), N < z ^ n → (∀ i, i < n → dig z N i = z - 1) → N + 1 = z ^ n
  | 0, N, h, _ => by simp at h ⊢; omega
  | n + 1, N, h, h1 => by
    have h0 := h1 0 (by omega)
    rw [dig_zero] at h0
    have hlt : N / z < z ^ n := by
      rw [Nat.div_lt_iff_lt_mul hz]
      rwa [Nat.pow_succ] at h
    have := dig_all hz n (N / z) hlt fun i hi => by have := h1 (i + 1) (by omega); rwa [dig_succ] at this
    have h3 := Nat.div_add_mod N z
    rw [Nat.pow_succ, ← this, Nat.mul_comm, Nat.mul_add]
    omega
theorem dig_pow {z n a : Nat} (hz : 0 < z) (h : a < n) : dig z (z ^ n) a = 0 := by
  obtain ⟨k, rfl⟩ : ∃ k, n = a + (k + 1) := ⟨n - a - 1, by omega⟩
  unfold dig
  rw [Nat.pow_add, Nat.mul_div_cancel_left _ (Nat.pow_pos hz), Nat.pow_succ]
  exact Nat.mul_mod_left _ _
def digE (vars : List Int) (z N : Nat) : List Int := envF vars fun i => (dig z N i : Int)
def alwaysB (s : List Sym) (w : Wd) (c : List Lt) (vars : List Int) : Bool := allFrom (fun N => someB s w (digE vars w.size.toNat N) c) 0 (w.size.toNat ^ vars.length)

set_option maxHeartbeats 4000000 in
theorem ev_always {s : List Sym} (hs : Small s.length) {w : Wd} (hw : worldB s w = true) (c : List Lt) (hc : ClSmall c) (hg : Good s c) (hv : VarsOk (addAll [] (occC2 c))) (hvl : (addAll [] (occC2 c)).length ≤ 8) :
    EV prog cfg 91 [.sl (rowsS s), .agg (cellsW w), .agg [.sl (rowsL c)]] [] = some (.bool (alwaysB s w c (addAll [] (occC2 c))), []) := by
  have hsz : 1 ≤ w.size ∧ w.size ≤ 4 := by simp only [worldB, Bool.and_eq_true, decide_eq_true_eq] at hw; exact hw.1.1.2
  have hcv := ev_ClauseVars c hc
  generalize addAll [] (occC2 c) = vars at hv hvl hcv ⊢
  (refine EV_k rfl func91 (by rw [f91]) (by rw [f91]; rfl) (by rw [f91]; rfl) ?_; rw [ntmps91]; (conv => lhs; whnf))
  (refine vuK_of (v_call rfl rfl (hcv) rfl rfl) ?_; (conv => lhs; whnf))
  have hz : 0 < w.size.toNat := by omega
  have hE0 : List.replicate 100 (0 : Int) = digE vars w.size.toNat 0 := by
    apply List.ext_getElem?
    intro v
    by_cases hv : v < 100
    · rw [List.getElem?_replicate, if_pos hv, digE, envF, List.getElem?_map, List.getElem?_range hv]
      simp [dig]
    · rw [List.getElem?_eq_none (by simp; omega), List.getElem?_eq_none (by rw [digE, envF_len]; omega)]
  refine head_of (s := ⟨[(0, .sl (rowsS s)), (4, .ptr (.loc 0 0) 0), (5, .ptr (.loc 0 1) 0), (7, .sl (rowsI vars)), (8, .own (.loc 0 2) 100)], [(.loc 0 0, .box (cellsW w)), (.loc 0 1, .box [.sl (rowsL c)]), (.loc 0 2, .arr 3 1 (rowsI (List.replicate 100 0)) true)]⟩) rfl ?_
  rw [hE0]
  refine loop_ind (β := Nat) (fun N => ⟨[(0, .sl (rowsS s)), (4, .ptr (.loc 0 0) 0), (5, .ptr (.loc 0 1) 0), (7, .sl (rowsI vars)), (8, .own (.loc 0 2) 100)], [(.loc 0 0, .box (cellsW w)), (.loc 0 1, .box [.sl (rowsL c)]), (.loc 0 2, .arr 3 1 (rowsI (digE vars w.size.toNat N)) true)]⟩)
    (fun N => N < w.size.toNat ^ vars.length) (fun N => w.size.toNat ^ vars.length - N) (fun N => (some (AV.bool (allFrom (fun N => someB s w (digE vars w.size.toNat N) c) N (w.size.toNat ^ vars.length)), ([] : List Ob)) : Option (AV × List Ob))) ?_ 0 (Nat.pow_pos hz)
  intro N hN ihN
  rw [allFrom_lt _ hN]
  have hel : (digE vars w.size.toNat N).length = 100 := envF_len _ _
  have hsh := ev_someHolds hs hw (digE vars w.size.toNat N) (by rw [hel]; decide) c hc hg
  refine round_of ?_
  (conv => lhs; whnf)
  (refine vuK_of (v_call rfl rfl (hsh) rfl rfl) ?_; (conv => lhs; whnf))
  ((repeat (first | refine br_t ?_ | refine br_f ?_ | refine br_not ?_)); first | refine br_lt (fun h1 => ?_) (fun h1 => ?_) | refine br_le (fun h1 => ?_) (fun h1 => ?_) | refine br_eq (fun h1 => ?_) (fun h1 => ?_) | refine br_b (fun h1 => ?_) (fun h1 => ?_)) <;> (conv => lhs; whnf)
  · rw [h1]
    have hdl : ∀ i, dig w.size.toNat N i < w.size.toNat := dig_lt hz N
    have hgetI : ∀ (g : Nat → Int) (i : Nat) (hi : i < vars.length), (rowsI (envF vars g))[(vars[i]).toNat]? = some [.int .i64 (g i)] := fun g i hi => by
      rw [rowsI, List.getElem?_map, envF_at hv g hi]; rfl
    have hlenI : ∀ (g : Nat → Int), (rowsI (envF vars g)).length = 100 := fun g => by rw [rowsI_length, envF_len]
    have hsetI : ∀ (g : Nat → Int) (i : Nat) (hi : i < vars.length) (x : Int), (rowsI (envF vars g)).set (vars[i]).toNat [.int .i64 x] = rowsI (envF vars (updG g i x)) := fun g i hi x => by
      rw [← envF_set hv g hi x]; simp only [rowsI, List.map_set]
    have hvm : ∀ (i : Nat) (hi : i < vars.length), 0 ≤ vars[i] ∧ vars[i] < (100 : Nat) := fun i hi => by
      have := hv.mem _ (List.getElem_mem hi); omega
    refine loop_for (β := Nat → Int) (fun z g => ⟨[(0, .sl (rowsS s)), (4, .ptr (.loc 0 0) 0), (5, .ptr (.loc 0 1) 0), (7, .sl (rowsI vars)), (8, .own (.loc 0 2) 100), (9, .int .i64 z)], [(.loc 0 0, .box (cellsW w)), (.loc 0 1, .box [.sl (rowsL c)]), (.loc 0 2, .arr 3 1 (rowsI (envF vars g)) true)]⟩) vars.length
      (fun a g => (∀ i, i < a → dig w.size.toNat N i = w.size.toNat - 1) ∧ ∀ i, g i = if i < a then 0 else (dig w.size.toNat N i : Int))
      (fun _ _ => some (.bool (true && allFrom (fun N => someB s w (digE vars w.size.toNat N) c) (N + 1) (w.size.toNat ^ vars.length)), [])) (fun i => (dig w.size.toNat N i : Int)) rfl rfl ⟨fun i hi => absurd hi (by omega), fun i => by simp⟩ ?_
    rintro a g ha ⟨hd, hgd⟩ iha
    refine round_of ?_
    (conv => lhs; whnf)
    ((repeat (first | refine br_t ?_ | refine br_f ?_ | refine br_not ?_)); first | refine br_lt (fun h5 => ?_) (fun h5 => ?_) | refine br_le (fun h5 => ?_) (fun h5 => ?_) | refine br_eq (fun h5 => ?_) (fun h5 => ?_) | refine br_b (fun h5 => ?_) (fun h5 => ?_)) <;> (conv => lhs; whnf) <;> rw [rowsI_length] at h5
    · have hlt : a < vars.length := by omega
      obtain ⟨hv0, hv1⟩ := hvm a hlt
      have hga := hgd a
      rw [if_neg (by omega)] at hga
      have hda := hdl a
      (refine vuK_of (v_idx (rowsI_get hlt) rfl rfl rfl rfl) ?_; (conv => lhs; whnf))
      refine vuK_of (v_idx_wr hv0 hv1 (hlenI g) rfl rfl rfl rfl rfl) ?_
      (conv => lhs; whnf)
      refine vuK_of (v_load_e (hgetI g a hlt) (hlenI g) rfl rfl rfl (Nat.lt_succ_self 0) (Nat.le_refl 1)) ?_
      (conv => lhs; whnf)
      ((repeat (first | refine br_t ?_ | refine br_f ?_ | refine br_not ?_)); first | refine br_lt (fun h6 => ?_) (fun h6 => ?_) | refine br_le (fun h6 => ?_) (fun h6 => ?_) | refine br_eq (fun h6 => ?_) (fun h6 => ?_) | refine br_b (fun h6 => ?_) (fun h6 => ?_)) <;> (conv => lhs; whnf)
      · rw [hga, wrap_ok (by omega) (by omega)] at h6
        (refine vuK_of (v_idx (rowsI_get hlt) rfl rfl rfl rfl) ?_; (conv => lhs; whnf))
        refine vuK_of (v_idx_wr hv0 hv1 (hlenI g) rfl rfl rfl rfl rfl) ?_
        (conv => lhs; whnf)
        refine vuK_of (v_store_int (hgetI g a hlt) (hlenI g) (hsetI g a hlt 0) rfl rfl rfl rfl rfl) ?_
        (conv => lhs; whnf)
        refine iha _ _ (updG g a 0) rfl (wrap_succ hlt (by omega)) hlt ⟨fun i hi => ?_, fun i => ?_⟩
        · rcases Nat.lt_or_ge i a with h | h
          · exact hd i h
          · rw [show i = a by omega]; omega
        · unfold updG
          by_cases hia : i = a
          · rw [if_pos hia, if_pos (by omega)]
          · rw [if_neg hia, hgd i]
            by_cases h : i < a
            · rw [if_pos h, if_pos (by omega)]
            · rw [if_neg h, if_neg (by omega)]
      · rw [hga, wrap_ok (by omega) (by omega)] at h6
        have hne : dig w.size.toNat N a ≠ w.size.toNat - 1 := by omega
        ((repeat (first | refine br_t ?_ | refine br_f ?_ | refine br_not ?_)); first | refine br_lt (fun h7 => ?_) (fun h7 => ?_) | refine br_le (fun h7 => ?_) (fun h7 => ?_) | refine br_eq (fun h7 => ?_) (fun h7 => ?_) | refine br_b (fun h7 => ?_) (fun h7 => ?_)) <;> (conv => lhs; whnf)
        · exfalso; rw [rowsI_length] at h7; omega
        · (refine vuK_of (v_idx (rowsI_get hlt) rfl rfl rfl rfl) ?_; (conv => lhs; whnf))
          refine vuK_of (v_idx_wr hv0 hv1 (hlenI g) rfl rfl rfl rfl rfl) ?_
          (conv => lhs; whnf)
          refine vuK_of (v_load_e (hgetI g a hlt) (hlenI g) rfl rfl rfl (Nat.lt_succ_self 0) (Nat.le_refl 1)) ?_
          (conv => lhs; whnf)
          refine vuK_of (v_idx_wr hv0 hv1 (hlenI g) rfl rfl rfl rfl rfl) ?_
          (conv => lhs; whnf)
          refine vuK_of (v_store_int (hgetI g a hlt) (hlenI g) (hsetI g a hlt _) rfl rfl rfl rfl rfl) ?_
          (conv => lhs; whnf)
          have hN1 : N + 1 < w.size.toNat ^ vars.length := by
            rcases Nat.lt_or_ge (N + 1) (w.size.toNat ^ vars.length) with h | h
            · exact h
            · exfalso
              have h0 := dig_pow hz (show a < vars.length from hlt)
              rw [← show N + 1 = w.size.toNat ^ vars.length by omega, dig_next hz a N hd hne a, if_neg (by omega), if_pos rfl] at h0
              omega
          have henv : envF vars (updG g a (IntKind.wrap .i64 (g a + 1))) = digE vars w.size.toNat (N + 1) := by
            unfold digE
            refine envF_congr fun i hi => ?_
            rw [dig_next hz a N hd hne i, updG, hga, wrap_ok (by omega) (by omega), hgd i]
            by_cases h1 : i = a
            · rw [if_pos h1, if_neg (by omega), if_pos h1]; rfl
            · rw [if_neg h1]
              by_cases h2 : i < a
              · rw [if_pos h2, if_pos h2]; rfl
              · rw [if_neg h2, if_neg h2, if_neg h1]
          refine head_of (s := ⟨[(0, .sl (rowsS s)), (4, .ptr (.loc 0 0) 0), (5, .ptr (.loc 0 1) 0), (7, .sl (rowsI vars)), (8, .own (.loc 0 2) 100)], [(.loc 0 0, .box (cellsW w)), (.loc 0 1, .box [.sl (rowsL c)]), (.loc 0 2, .arr 3 1 (rowsI (digE vars w.size.toNat (N + 1))) true)]⟩) (by rw [← henv]; rfl) ?_
          exact (ihN (N + 1) hN1 (by omega)).trans rfl
    · have hall := dig_all hz vars.length N hN (fun i hi => hd i (by omega))
      ((repeat (first | refine br_t ?_ | refine br_f ?_ | refine br_not ?_)); first | refine br_lt (fun h7 => ?_) (fun h7 => ?_) | refine br_le (fun h7 => ?_) (fun h7 => ?_) | refine br_eq (fun h7 => ?_) (fun h7 => ?_) | refine br_b (fun h7 => ?_) (fun h7 => ?_)) <;> (conv => lhs; whnf) <;> rw [rowsI_length] at h7
      · rw [allFrom_ge _ (by omega)]; rfl
      · omega
  · rw [h1]; rfl
end Go.Proofs.Tryz
