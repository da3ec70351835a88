/- The operations that compute: numbers, texts, truth; parts of structs; closures; pointers. -/
import Derived.Test.YtkbeimibpeofbaaGreatSimG
import Derived.Laws.Strings
namespace Go.Sim

def kindA : AV → AV → Bool
  | .int k _, .int j _ => k == j
  | .bool _, .bool _ => true
  | .str _, .str _ => true
  | _, _ => false
def kindsA : List AV → List AV → Bool
  | [], [] => true
  | z :: zs, x :: xs => kindA z x && kindsA zs xs
  | _, _ => false
def sameA : AV → AV → Bool
  | .int _ a, .int _ b => decide (a = b)
  | .bool a, .bool b => a == b
  | .str a, .str b => decide (a = b)
  | _, _ => false
def samesA : List AV → List AV → Bool
  | [], [] => true
  | x :: xs, y :: ys => sameA x y && samesA xs ys
  | _, _ => false

def binV (tb : Tab) (t : TypeId) : BinOp → AV → AV → (AV → Prop) → Prop
  | .add, .int k a, .int j b, K => k = j ∧ K (.int k (k.wrap (a + b)))
  | .sub, .int k a, .int j b, K => k = j ∧ K (.int k (k.wrap (a - b)))
  | .mul, .int k a, .int j b, K => k = j ∧ K (.int k (k.wrap (a * b)))
  | .quo, .int k a, .int j b, K => (k = j ∧ b ≠ 0) ∧ K (.int k (k.wrap (a.tdiv b)))
  | .rem, .int k a, .int j b, K => (k = j ∧ b ≠ 0) ∧ K (.int k (a.tmod b))
  | .and, .int k a, .int j b, K => k = j ∧ K (.int k (k.wrap (BitVec.ofInt k.bits a &&& BitVec.ofInt k.bits b).toNat))
  | .or, .int k a, .int j b, K => k = j ∧ K (.int k (k.wrap (BitVec.ofInt k.bits a ||| BitVec.ofInt k.bits b).toNat))
  | .xor, .int k a, .int j b, K => k = j ∧ K (.int k (k.wrap (BitVec.ofInt k.bits a ^^^ BitVec.ofInt k.bits b).toNat))
  | .shl, .int k a, .int _ b, K => 0 ≤ b ∧ K (.int k (k.wrap (a * 2 ^ (min b.toNat k.bits))))
  | .shr, .int k a, .int _ b, K => 0 ≤ b ∧ K (.int k (a.fdiv (2 ^ (min b.toNat k.bits))))
  | .eql, .int k a, .int j b, K => k = j ∧ K (.bool (decide (a = b)))
  | .neq, .int k a, .int j b, K => k = j ∧ K (.bool (!decide (a = b)))
  | .lss, .int k a, .int j b, K => k = j ∧ K (.bool (decide (a < b)))
  | .leq, .int k a, .int j b, K => k = j ∧ K (.bool (decide (a ≤ b)))
  | .gtr, .int k a, .int j b, K => k = j ∧ K (.bool (decide (b < a)))
  | .geq, .int k a, .int j b, K => k = j ∧ K (.bool (decide (b ≤ a)))
  | .add, .str a, .str b, K => a.size + b.size ≤ 9223372036854775807 ∧ K (.str (a ++ b))
  | .eql, .str a, .str b, K => K (.bool (decide (a = b)))
  | .neq, .str a, .str b, K => K (.bool (!decide (a = b)))
  | .eql, .bool a, .bool b, K => (∃ ti, look tb t = some ti ∧ ti.k = .bool) ∧ K (.bool (a == b))
  | .eql, .agg xs, .agg ys, K => (∃ ti, look tb t = some ti ∧ (ti.eqs && kindsA ti.zero xs && kindsA ti.zero ys) = true) ∧ K (.bool (samesA xs ys))
  | .neq, .bool a, .bool b, K => (∃ ti, look tb t = some ti ∧ ti.k = .bool) ∧ K (.bool (!(a == b)))
  | _, _, _, _ => False

theorem str_eq (a b : ByteArray) : (a.toList == b.toList) = decide (a = b) := by
  rw [ByteArray.toList_eq, ByteArray.toList_eq]
  by_cases h : a = b
  · simp [h]
  · have h2 : ¬ a.data.toList = b.data.toList := fun e => h (by cases a; cases b; simpa using e)
    rw [decide_eq_false h]
    exact beq_eq_false_iff_ne.2 h2

theorem bool_und {P : Program} {tb : Tab} (hT : TabOk P tb) {t : TypeId} (h : ∃ ti, look tb t = some ti ∧ ti.k = .bool) : P.underlying t = some .bool := by
  obtain ⟨ti, h1, h2⟩ := h
  obtain ⟨info, z, d, _, _, _, _, h7, h8, _⟩ := hT.at h1
  rw [h2] at h8
  rw [h7, show d = .bool from h8]

def plainC : Value → Bool
  | .int _ _ => true
  | .string _ => true
  | .bool _ => true
  | _ => false

theorem run_eqGuard {P : Program} (w : World) (op : BinOp) (t : TypeId) (ox oy : Operand) (a b : Value) (h : plainC a = true) : (eqGuard op t ox oy a b).run P w = .ok () w := by
  cases a <;> first | (cases op <;> rfl) | simp [plainC] at h

theorem run_guarded {P : Program} (w : World) (op : BinOp) (t : TypeId) (ox oy : Operand) (a b : Value) (h : plainC a = true) :
    (do eqGuard op t ox oy a b; binOp op t a b : Sem Value).run P w = (binOp op t a b).run P w := by
  rw [Sem.run_bind, run_eqGuard w op t ox oy a b h, Result.andThen_ok]

theorem run_equalIn_bool {P : Program} {t : TypeId} (hu : P.underlying t = some .bool) (w : World) (d : Nat) (a b : Bool) : (Op.equalIn (d + 1) t (.bool a) (.bool b)).run P w = .ok (a == b) w := by
  simp [Op.equalIn, run_underlying hu]

theorem run_bool_eql {P : Program} {t : TypeId} (hu : P.underlying t = some .bool) (w : World) (a b : Bool) : (binOp .eql t (.bool a) (.bool b)).run P w = .ok (.bool (a == b)) w := by
  show (do pure (.bool (← Op.equalIn (9999 + 1) t (.bool a) (.bool b))) : Sem Value).run P w = _
  rw [Sem.run_bind, run_equalIn_bool hu]
  rfl

theorem run_bool_neq {P : Program} {t : TypeId} (hu : P.underlying t = some .bool) (w : World) (a b : Bool) : (binOp .neq t (.bool a) (.bool b)).run P w = .ok (.bool (!(a == b))) w := by
  show (do pure (.bool (!(← Op.equalIn (9999 + 1) t (.bool a) (.bool b)))) : Sem Value).run P w = _
  rw [Sem.run_bind, run_equalIn_bool hu]
  rfl

/-- Plain cells and what they stand for. -/
def cellsV' : List AV → List Value → Prop
  | [], [] => True
  | x :: xs, v :: vs => v = toV x ∧ cellsV' xs vs
  | _, _ => False

theorem kindV_of {M : Mem} {z x : AV} {v : Value} (hk : kindA z x = true) (h : RepS M x v) : v = toV x ∧ kindV z v = true := by
  cases z <;> cases x <;> first | (simp [kindA] at hk; done) | skip
  all_goals
    have h' : v = _ := h
    subst h'
    exact ⟨rfl, hk⟩

theorem kinds_of {M : Mem} : ∀ (zs xs : List AV) (vs : List Value), kindsA zs xs = true → vs.length = xs.length → (∀ j x, xs[j]? = some x → RepS M x (vs.getD j undef)) → kindsV zs vs = true ∧ cellsV' xs vs := by
  intro zs
  induction zs with
  | nil =>
    intro xs vs hk hl _
    cases xs with
    | nil => cases vs with
      | nil => exact ⟨rfl, trivial⟩
      | cons _ _ => simp at hl
    | cons _ _ => simp [kindsA] at hk
  | cons z zs ih =>
    intro xs vs hk hl hr
    cases xs with
    | nil => simp [kindsA] at hk
    | cons x xs =>
      cases vs with
      | nil => simp at hl
      | cons v vs =>
        simp only [kindsA, Bool.and_eq_true] at hk
        obtain ⟨h1, h2⟩ := kindV_of hk.1 (hr 0 x rfl)
        obtain ⟨h3, h4⟩ := ih xs vs hk.2 (by simpa using hl) (fun j y hj => by have := hr (j + 1) y (by simpa using hj); simpa using this)
        have h1 : v = toV x := h1
        have h2 : kindV z v = true := h2
        exact ⟨by simp [kindsV, h2, h3], h1, h4⟩

theorem agg_kinds {M : Mem} {zs xs : List AV} {v : Value} (h : RepV M (.agg xs) v) (hk : kindsA zs xs = true) : ∃ us : List Value, v = .agg us.toArray ∧ kindsV zs us = true ∧ cellsV' xs us := by
  obtain ⟨cs, rfl, hs, hr⟩ := h
  obtain ⟨h1, h2⟩ := kinds_of zs xs cs.toList hk (by simpa using hs) (fun j x hj => by have := hr j x hj; simpa [Array.getD_eq_getD_getElem?, List.getD_eq_getElem?_getD] using this)
  exact ⟨cs.toList, by simp, h1, h2⟩

theorem samesV_eq : ∀ (zs xs ys : List AV) (us vs : List Value), kindsA zs xs = true → kindsA zs ys = true → cellsV' xs us → cellsV' ys vs → samesV us vs = samesA xs ys := by
  intro zs
  induction zs with
  | nil =>
    intro xs ys us vs h1 h2 h3 h4
    cases xs <;> cases ys <;> first | (simp [kindsA] at h1 h2; done) | skip
    cases us <;> cases vs <;> first | rfl | exact h3.elim | exact h4.elim
  | cons z zs ih =>
    intro xs ys us vs h1 h2 h3 h4
    cases xs with
    | nil => simp [kindsA] at h1
    | cons x xs =>
      cases ys with
      | nil => simp [kindsA] at h2
      | cons y ys =>
        cases us with
        | nil => exact h3.elim
        | cons u us =>
          cases vs with
          | nil => exact h4.elim
          | cons v vs =>
            simp only [kindsA, Bool.and_eq_true] at h1 h2
            obtain ⟨rfl, h3⟩ := h3
            obtain ⟨rfl, h4⟩ := h4
            rw [samesV, samesA, ih xs ys us vs h1.2 h2.2 h3 h4]
            congr 1
            have a1 := h1.1
            have a2 := h2.1
            cases z <;> cases x <;> first | (simp [kindA] at a1; done) | skip
            all_goals cases y <;> first | (simp [kindA] at a2; done) | rfl

theorem binV_sound {P : Program} {tb : Tab} (hT : TabOk P tb) (t : TypeId) (op : BinOp) (x y : AV) {K : AV → Prop} (h : binV tb t op x y K) :
    ∃ v, K v ∧ ∀ (M : Mem) (ox oy : Operand) (cx cy : Value), RepV M x cx → RepV M y cy →
      ∃ cv, (do eqGuard op t ox oy cx cy; binOp op t cx cy : Sem Value).run P M.w = .ok cv M.w ∧ RepV M v cv := by
  unfold binV at h
  split at h
  case h_23 => exact h.elim
  case h_21 =>
    rename_i xs ys
    refine ⟨_, h.2, fun M ox oy cx cy hx hy => ?_⟩
    obtain ⟨⟨ti, h1, h2⟩, _⟩ := h
    simp only [Bool.and_eq_true] at h2
    obtain ⟨_, _, _, _, _, _, _, _, _, _, _, _, hE⟩ := hT.at h1
    obtain ⟨us, rfl, k1, k2⟩ := agg_kinds hx h2.1.2
    obtain ⟨vs, rfl, k3, k4⟩ := agg_kinds hy h2.2
    refine ⟨_, hE h2.1.1 M.w ox oy us vs k1 k3, ?_⟩
    rw [samesV_eq ti.zero xs ys us vs h2.1.2 h2.2 k2 k4]
    exact .of (.of rfl)
  case h_20 =>
    refine ⟨_, h.2, fun M ox oy cx cy hx hy => ?_⟩
    cases rep_bool hx
    cases rep_bool hy
    exact ⟨_, (run_guarded M.w _ t ox oy _ _ rfl).trans (run_bool_eql (bool_und hT h.1) _ _ _), .of (.of rfl)⟩
  case h_22 =>
    refine ⟨_, h.2, fun M ox oy cx cy hx hy => ?_⟩
    cases rep_bool hx
    cases rep_bool hy
    exact ⟨_, (run_guarded M.w _ t ox oy _ _ rfl).trans (run_bool_neq (bool_und hT h.1) _ _ _), .of (.of rfl)⟩
  case h_17 =>
    refine ⟨_, h.2, fun M ox oy cx cy hx hy => ?_⟩
    cases rep_str hx
    cases rep_str hy
    refine ⟨_, (run_guarded M.w _ t ox oy _ _ rfl).trans ?_, .of (.of rfl)⟩
    rename_i a b
    have h1 := h.1
    have h2 : ¬ ((9223372036854775807 : Int) < (a.size : Int) + (b.size : Int)) := by omega
    have h3 : IntKind.max .i64 = 9223372036854775807 := rfl
    simp [binOp, Op.stringOp, h2, h3]
  case h_18 | h_19 =>
    refine ⟨_, h, fun M ox oy cx cy hx hy => ?_⟩
    cases rep_str hx
    cases rep_str hy
    refine ⟨_, (run_guarded M.w _ t ox oy _ _ rfl).trans ?_, .of (.of rfl)⟩
    simp only [binOp, Op.stringOp, str_eq]
    rfl
  case h_9 | h_10 =>
    refine ⟨_, h.2, fun M ox oy cx cy hx hy => ?_⟩
    cases rep_int hx
    cases rep_int hy
    refine ⟨_, (run_guarded M.w _ t ox oy _ _ rfl).trans ?_, .of (.of rfl)⟩
    have h1 := h.1
    simp only [binOp, Op.shift]
    rw [if_neg (by omega)]
    rfl
  case h_4 | h_5 =>
    refine ⟨_, h.2, fun M ox oy cx cy hx hy => ?_⟩
    cases rep_int hx
    cases rep_int hy
    obtain ⟨⟨rfl, h1⟩, _⟩ := h
    refine ⟨_, (run_guarded M.w _ t ox oy _ _ rfl).trans ?_, .of (.of rfl)⟩
    simp [binOp, Op.intDiv, h1]
  all_goals
    refine ⟨_, h.2, fun M ox oy cx cy hx hy => ?_⟩
    cases rep_int hx
    cases rep_int hy
    obtain ⟨rfl, _⟩ := h
    refine ⟨_, (run_guarded M.w _ t ox oy _ _ rfl).trans ?_, .of (.of rfl)⟩
    first
      | (simp [binOp, Op.intArith]; done)
      | (simp [binOp, Op.intBits]; done)
      | (simp [binOp, Op.intCmp]; done)
      | (simp only [binOp, Op.intCmp, ne_eq, not_true_eq_false, if_false, bne, Sem.run_pure, Bool.beq_eq_decide_eq]; done)
      | (simp only [binOp, Op.intCmp, ne_eq, not_true_eq_false, if_false, bne, Sem.run_pure, Bool.beq_eq_decide_eq]; rfl)

theorem kindsV_cons {z : AV} {zs : List AV} {l : List Value} (h : kindsV (z :: zs) l = true) : ∃ x xs, l = x :: xs ∧ kindV z x = true ∧ kindsV zs xs = true := by
  cases l with
  | nil => simp [kindsV] at h
  | cons x xs => simp only [kindsV, Bool.and_eq_true] at h; exact ⟨x, xs, rfl, h.1, h.2⟩
theorem kindsV_nil {l : List Value} (h : kindsV [] l = true) : l = [] := by
  cases l with
  | nil => rfl
  | cons x xs => simp [kindsV] at h
theorem kindV_str {s : ByteArray} {v : Value} (h : kindV (.str s) v = true) : ∃ a, v = .string a := by cases v <;> first | exact ⟨_, rfl⟩ | simp [kindV] at h
theorem kindV_bool {s : Bool} {v : Value} (h : kindV (.bool s) v = true) : ∃ a, v = .bool a := by cases v <;> first | exact ⟨_, rfl⟩ | simp [kindV] at h
theorem kindV_int {k : IntKind} {s : Int} {v : Value} (h : kindV (.int k s) v = true) : ∃ a, v = .int k a := by
  cases v with
  | int j n => simp [kindV] at h; subst h; exact ⟨_, rfl⟩
  | _ => simp [kindV] at h
theorem eqTy_sib {P : Program} {t : TypeId} {f0 f1 f2 : Field} (hu : P.underlying t = some (.struct #[f0, f1, f2])) (hs : P.stoodInHeld t = false)
    (u0 : P.underlying f0.type = some .string) (u1 : P.underlying f1.type = some (.int .i64)) (u2 : P.underlying f2.type = some .bool)
    (o0 : f0.offset = 0) (o1 : f1.offset = 1) (o2 : f2.offset = 2) (n0 : (f0.name = "_") = False) (n1 : (f1.name = "_") = False) (n2 : (f2.name = "_") = False)
    (hg : P.eqGuardType P.depth t = false) (zs : ByteArray) (zi : Int) (zb : Bool) : EqTy P t [.str zs, .int .i64 zi, .bool zb] := by
  intro w ox oy xs ys hx hy
  obtain ⟨_, _, rfl, k1, hx⟩ := kindsV_cons hx
  obtain ⟨_, _, rfl, k2, hx⟩ := kindsV_cons hx
  obtain ⟨_, _, rfl, k3, hx⟩ := kindsV_cons hx
  obtain rfl := kindsV_nil hx
  obtain ⟨a, rfl⟩ := kindV_str k1
  obtain ⟨b, rfl⟩ := kindV_int k2
  obtain ⟨c, rfl⟩ := kindV_bool k3
  obtain ⟨_, _, rfl, k1, hy⟩ := kindsV_cons hy
  obtain ⟨_, _, rfl, k2, hy⟩ := kindsV_cons hy
  obtain ⟨_, _, rfl, k3, hy⟩ := kindsV_cons hy
  obtain rfl := kindsV_nil hy
  obtain ⟨a', rfl⟩ := kindV_str k1
  obtain ⟨b', rfl⟩ := kindV_int k2
  obtain ⟨c', rfl⟩ := kindV_bool k3
  have e1 : (eqGuard .eql t ox oy (.agg #[.string a, .int .i64 b, .bool c]) (.agg #[.string a', .int .i64 b', .bool c'])).run P w = .ok () w := by
    simp [eqGuard, hg]
  have key : ∀ d, (Op.equalIn (d + 2) t (.agg #[.string a, .int .i64 b, .bool c]) (.agg #[.string a', .int .i64 b', .bool c'])).run P w = .ok (samesV [.string a, .int .i64 b, .bool c] [.string a', .int .i64 b', .bool c']) w := by
    intro d
    have i0 : (Go.isAgg f0.type).run P w = .ok false w := by simp [Go.isAgg, run_underlying u0]
    have i1 : (Go.isAgg f1.type).run P w = .ok false w := by simp [Go.isAgg, run_underlying u1]
    have i2 : (Go.isAgg f2.type).run P w = .ok false w := by simp [Go.isAgg, run_underlying u2]
    rw [Op.equalIn]
    simp only [Sem.run_bind, run_underlying hu, Result.andThen_ok]
    simp [hs, n0, n1, n2, part, i0, i1, i2, o0, o1, o2, Op.equalIn, run_underlying u0, run_underlying u1, run_underlying u2, samesV, sameV]
    have hq : (a == a') = decide (a = a') := by
      show (a.data == a'.data) = _
      by_cases h : a = a'
      · simp [h]
      · have h2 : ¬ a.data = a'.data := fun e => h (by cases a; cases a'; simpa using e)
        simp [h, h2]
    rw [hq]
    by_cases ha : a = a' <;> by_cases hb : b = b' <;> by_cases hc : c = c' <;> simp [ha, hb, hc]
  show ((eqGuard .eql t ox oy (.agg #[.string a, .int .i64 b, .bool c]) (.agg #[.string a', .int .i64 b', .bool c'])) >>= fun _ => binOp .eql t (.agg #[.string a, .int .i64 b, .bool c]) (.agg #[.string a', .int .i64 b', .bool c'])).run P w = _
  rw [Sem.run_bind, e1, Result.andThen_ok]
  show (do pure (.bool (← Op.equalIn (9998 + 2) t _ _)) : Sem Value).run P w = _
  rw [Sem.run_bind, key]
  rfl

end Go.Sim
