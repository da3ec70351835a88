/- Terms, literals, worlds as plain data, and how they lie in the abstract machine. -/
import Derived.Test.YtkbeimibpeofbaaGreatSimZC
namespace Go.Braid
open Go Go.Sim

theorem wrap_ok {z : Int} (h1 : -9223372036854775808 ≤ z) (h2 : z < 9223372036854775808) : IntKind.wrap .i64 z = z := by
  rw [IntKind.wrap_i64]; omega
theorem wrap_succ {n m : Nat} (h : n < m) (hm : m < 4611686018427387904) : IntKind.wrap .i64 ((n : Int) + 1) = ((n + 1 : Nat) : Int) := by
  rw [wrap_ok (by omega) (by omega)]; rfl

inductive Tm where
  | mk (f v : Int) (kids : List Tm)

namespace Tm
def f : Tm → Int | mk f _ _ => f
def v : Tm → Int | mk _ v _ => v
def kids : Tm → List Tm | mk _ _ ks => ks
end Tm

theorem Tm.ind {p : Tm → Prop} (h : ∀ f v ks, (∀ k ∈ ks, p k) → p (.mk f v ks)) : ∀ t, p t
  | .mk f v ks => h f v ks fun k _hk => Tm.ind h k
  termination_by t => SizeOf.sizeOf t
  decreasing_by
  have := List.sizeOf_lt_of_mem _hk
  simp only [Tm.mk.sizeOf_spec]
  omega

mutual
def nodes : Tm → Nat
  | .mk _ _ ks => 1 + nodesL ks
def nodesL : List Tm → Nat
  | [] => 0
  | t :: ts => nodes t + nodesL ts
end

theorem nodes_pos (t : Tm) : 0 < nodes t := by cases t; simp only [nodes]; omega
theorem nodesL_mem {k : Tm} : ∀ {ks : List Tm}, k ∈ ks → nodes k ≤ nodesL ks
  | [], h => by cases h
  | t :: ts, h => by
    simp only [nodesL]
    rcases List.mem_cons.1 h with rfl | h
    · omega
    · have := nodesL_mem h; omega
theorem nodesL_len : ∀ (ks : List Tm), ks.length ≤ nodesL ks
  | [] => Nat.le_refl _
  | t :: ts => by
    have := nodesL_len ts
    have := nodes_pos t
    simp only [nodesL, List.length_cons]; omega
theorem nodes_kids (t : Tm) : nodes t = 1 + nodesL t.kids := by cases t; rfl
theorem nodes_kid {t k : Tm} (h : k ∈ t.kids) : nodes k < nodes t := by
  have := nodesL_mem h
  rw [nodes_kids t]; omega
theorem nodes_len (t : Tm) : t.kids.length < nodes t := by
  have := nodesL_len t.kids
  rw [nodes_kids t]; omega
theorem nodesL_append (a b : List Tm) : nodesL (a ++ b) = nodesL a + nodesL b := by
  induction a with
  | nil => simp [nodesL]
  | cons x a ih => simp only [List.cons_append, nodesL, ih]; omega

mutual
def cellsT0 : Tm → List AV
  | .mk f v ks => [.int .i64 f, .int .i64 v, .sl (rowsT ks)]
def rowsT : List Tm → List (List AV)
  | [] => []
  | t :: ts => cellsT0 t :: rowsT ts
end
def cellsT (t : Tm) : List AV := [.int .i64 t.f, .int .i64 t.v, .sl (rowsT t.kids)]
theorem cellsT0_eq (t : Tm) : cellsT0 t = cellsT t := by cases t; rw [cellsT0]; rfl
theorem rowsT_map (ks : List Tm) : rowsT ks = ks.map cellsT := by
  induction ks with
  | nil => rfl
  | cons t ts ih => rw [rowsT, cellsT0_eq, ih]; rfl
theorem rowsT_length (ks : List Tm) : (rowsT ks).length = ks.length := by rw [rowsT_map, List.length_map]
theorem rowsT_get {ks : List Tm} {i : Nat} (h : i < ks.length) : (rowsT ks)[i]? = some (cellsT ks[i]) := by rw [rowsT_map]; simp [h]
theorem rowsT_getI {ks : List Tm} {i : Nat} (h : i < ks.length) : (rowsT ks)[((i : Nat) : Int).toNat]? = some (cellsT ks[i]) := rowsT_get h
theorem rowsT_append (a b : List Tm) : rowsT (a ++ b) = rowsT a ++ rowsT b := by simp [rowsT_map]

structure Sym where
  name : ByteArray
  arity : Int
  ac : Bool
def cellsS (y : Sym) : List AV := [.str y.name, .int .i64 y.arity, .bool y.ac]
def rowsS (s : List Sym) : List (List AV) := s.map cellsS
theorem rowsS_length (s : List Sym) : (rowsS s).length = s.length := List.length_map ..
theorem rowsS_get {s : List Sym} {i : Nat} (h : i < s.length) : (rowsS s)[i]? = some (cellsS s[i]) := by simp [rowsS, h]

structure Lt where
  pos : Bool
  l : Tm
  r : Tm
def cellsL (l : Lt) : List AV := [.bool l.pos, .int .i64 l.l.f, .int .i64 l.l.v, .sl (rowsT l.l.kids), .int .i64 l.r.f, .int .i64 l.r.v, .sl (rowsT l.r.kids)]
def rowsL (c : List Lt) : List (List AV) := c.map cellsL
theorem rowsL_length (c : List Lt) : (rowsL c).length = c.length := List.length_map ..
theorem rowsL_get {c : List Lt} {i : Nat} (h : i < c.length) : (rowsL c)[i]? = some (cellsL c[i]) := by simp [rowsL, h]
def nodesC : List Lt → Nat
  | [] => 0
  | l :: c => nodes l.l + nodes l.r + nodesC c
theorem nodesC_mem {l : Lt} : ∀ {c : List Lt}, l ∈ c → nodes l.l + nodes l.r ≤ nodesC c
  | [], h => by cases h
  | t :: ts, h => by
    simp only [nodesC]
    rcases List.mem_cons.1 h with rfl | h
    · omega
    · have := nodesC_mem h; omega
theorem nodesC_len : ∀ (c : List Lt), 2 * c.length ≤ nodesC c
  | [] => Nat.le_refl _
  | t :: ts => by
    have := nodesC_len ts
    have := nodes_pos t.l
    have := nodes_pos t.r
    simp only [nodesC, List.length_cons]; omega

def rowsI (l : List Int) : List (List AV) := l.map fun x => [.int .i64 x]
theorem rowsI_length (l : List Int) : (rowsI l).length = l.length := List.length_map ..
theorem rowsI_get {l : List Int} {i : Nat} (h : i < l.length) : (rowsI l)[i]? = some [.int .i64 l[i]] := by simp [rowsI, h]
theorem rowsI_append (a b : List Int) : rowsI (a ++ b) = rowsI a ++ rowsI b := List.map_append ..
def rowsII (l : List (List Int)) : List (List AV) := l.map fun x => [.sl (rowsI x)]
theorem rowsII_length (l : List (List Int)) : (rowsII l).length = l.length := List.length_map ..
theorem rowsII_get {l : List (List Int)} {i : Nat} (h : i < l.length) : (rowsII l)[i]? = some [.sl (rowsI l[i])] := by simp [rowsII, h]

theorem rowLens_I (l : List Int) : rowLens 1 (rowsI l) = true := by simp [rowLens, rowsI]
theorem rowLens_T (l : List Tm) : rowLens 3 (rowsT l) = true := by simp [rowLens, rowsT_map, cellsT]
theorem rowLens_L (l : List Lt) : rowLens 7 (rowsL l) = true := by simp [rowLens, rowsL, cellsL]
theorem rowLens_S (l : List Sym) : rowLens 3 (rowsS l) = true := by simp [rowLens, rowsS, cellsS]
theorem rowLens_II (l : List (List Int)) : rowLens 1 (rowsII l) = true := by simp [rowLens, rowsII]

abbrev Small (n : Nat) : Prop := n < 1099511627776

/-! ### How the running goes on at a test of numbers -/
section
variable {ρ : Type} {x y r : Option ρ}
theorem br_t {b : Bool} (h : iteK b x y = r) : iteK (b == true) x y = r := by cases b <;> exact h
theorem br_f {b : Bool} (h : iteK b y x = r) : iteK (b == false) x y = r := by cases b <;> exact h
theorem br_not {b : Bool} (h : iteK b y x = r) : iteK (!b) x y = r := by cases b <;> exact h
theorem br_lt {a b : Int} (ht : a < b → x = r) (hf : b ≤ a → y = r) : iteK (ltI a b) x y = r := by
  refine iteK_by _ (fun h => ht ?_) (fun h => hf ?_) <;> simpa [ltI_eq] using h
theorem br_le {a b : Int} (ht : a ≤ b → x = r) (hf : b < a → y = r) : iteK (leI a b) x y = r := by
  refine iteK_by _ (fun h => ht ?_) (fun h => hf ?_) <;> simpa [leI_eq] using h
theorem br_eq {a b : Int} (ht : a = b → x = r) (hf : a ≠ b → y = r) : iteK (eqI a b) x y = r := by
  refine iteK_by _ (fun h => ht ?_) (fun h => hf ?_) <;> simpa [eqI_eq] using h
theorem br_b {b : Bool} (ht : b = true → x = r) (hf : b = false → y = r) : iteK b x y = r := by
  cases b with
  | true => exact ht rfl
  | false => exact hf rfl
end

/-! ### Loops that count -/
section
variable {ρ : Type} {step : St → Option (Ex × St)} {norm : St → St} {k : Ex → St → Option ρ}

/-- From 0 to n, with something carried along. -/
theorem loop_for {β : Type} (inv : Int → β → St) (n : Nat) (I : Nat → β → Prop) (post : Nat → β → Option ρ) {st : St} {r : Option ρ} (b0 : β) (hr : r = post 0 b0) (h0 : norm st = inv ((0 : Nat) : Int) b0) (hI0 : I 0 b0)
    (round : ∀ i b, i ≤ n → I i b → (∀ st' z b', norm st' = inv z b' → z = ((i + 1 : Nat) : Int) → i + 1 ≤ n → I (i + 1) b' → loopK (LOOP step norm st') k = post (i + 1) b') →
      loopK (LOOPN step norm (inv (i : Int) b)) k = post i b) : loopK (LOOP step norm st) k = r := by
  subst hr
  refine head_of h0 ?_
  have key : ∀ (p : Nat × β), p.1 ≤ n ∧ I p.1 p.2 → loopK (LOOPN step norm (inv (p.1 : Int) p.2)) k = post p.1 p.2 :=
    loop_ind (β := Nat × β) (fun p => inv (p.1 : Int) p.2) (fun p => p.1 ≤ n ∧ I p.1 p.2) (fun p => n - p.1) (fun p => post p.1 p.2) fun p hp ih => by
      refine round p.1 p.2 hp.1 hp.2 fun st' z b' h1 h2 h3 h4 => ?_
      refine head_of (by rw [h1, h2]) ?_
      exact ih (p.1 + 1, b') ⟨h3, h4⟩ (by show n - (p.1 + 1) < n - p.1; omega)
  exact key (0, b0) ⟨Nat.zero_le _, hI0⟩

/-- The same, nothing carried along. -/
theorem loop_nat (inv : Int → St) (n : Nat) (post : Nat → Option ρ) {st : St} {r : Option ρ} (hr : r = post 0) (h0 : norm st = inv ((0 : Nat) : Int))
    (round : ∀ i, i ≤ n → (∀ st' z, norm st' = inv z → z = ((i + 1 : Nat) : Int) → i + 1 ≤ n → loopK (LOOP step norm st') k = post (i + 1)) →
      loopK (LOOPN step norm (inv (i : Int))) k = post i) : loopK (LOOP step norm st) k = r :=
  loop_for (β := Unit) (fun z _ => inv z) n (fun _ _ => True) (fun i _ => post i) () hr h0 trivial fun i _ hi _ ih => round i hi fun st' z h1 h2 h3 => ih st' z () h1 h2 h3 trivial
end

/-! ### Operations at which the running stands still -/
section
variable {cfg : Cfg} {fi : Nat} {call : FuncId → List AV → List Ob → Option (AV × List Ob)} {env : List (Nat × AV)} {obs : List (Ref × Ob)} {dst : Option Nat}
theorem v_index_str {t : TypeId} {x y : Operand} {s : ByteArray} {k : IntKind} {i : Int} (hx : opA env x = .str s) (hy : opA env y = .int k i) (hT : isStrT cfg.tab t = true) (h0 : 0 ≤ i) (h1 : i < s.size) :
    opV cfg fi call dst env obs (.index t x y) = some (.int .u8 (bget s i.toNat), []) := by
  simp only [opV, hx, hy, byteA, hT, h0, h1, and_self, if_true]
theorem v_index_strN {t : TypeId} {x y : Operand} {s : ByteArray} {k : IntKind} {i : Nat} (hx : opA env x = .str s) (hy : opA env y = .int k (i : Int)) (hT : isStrT cfg.tab t = true) (h1 : i < s.size) :
    opV cfg fi call dst env obs (.index t x y) = some (.int .u8 (bget s i), []) := v_index_str hx hy hT (Int.natCast_nonneg i) (by omega)
theorem v_index_str0 {t : TypeId} {x y : Operand} {s : ByteArray} {k : IntKind} (hx : opA env x = .str s) (hy : opA env y = .int k 0) (hT : isStrT cfg.tab t = true) (h1 : 0 < s.size) :
    opV cfg fi call dst env obs (.index t x y) = some (.int .u8 (bget s 0), []) := v_index_str hx hy hT (Int.le_refl 0) (by omega)
/-- In a slice of one's own that is not written any more. -/
theorem v_idx_fr {t e : TypeId} {eti : TI} {x y : Operand} {r : Ref} {m e' sz : Nat} {rows : List (List AV)} {k : IntKind} {i : Nat} {row : List AV} (hi : rows[i]? = some row) (hE : elemT cfg.tab t = some (e, eti)) (hx : opA env x = .own r m)
    (ho : lookR obs r = some (.arr e' sz rows false)) (hy : opA env y = .int k (i : Int)) (hl : row.length = eti.size) (hm : rows.length = m) : opV cfg fi call dst env obs (.indexAddr t x y) = some (.rp row 0, []) := by
  rw [← evAV_opA] at hx hy
  show stepV cfg fi call (.indexAddr t x y) dst env obs = _
  have hi' : rows[((i : Nat) : Int).toNat]? = some row := hi
  have h0 : (0 : Int) ≤ (i : Int) := Int.natCast_nonneg i
  simp only [stepV, stepOp, hE, indexS, hy, hx, ho, hi', h0, hl, hm, decide_true, beq_self_eq_true, Bool.and_self, when, if_true, Option.map_some]
theorem v_append_own {c : Call} {x y : Operand} {t e e' sz : Nat} {eti : TI} {r : Ref} {m m' : Nat} {rows rows' news : List (List AV)} {wr : Bool} {vy : AV} (hm : rows.length = m) (hn : rowsOf (lookR obs) vy = news) (hB : rowsB (lookR obs) vy = true)
    (hl : rowLens eti.size news = true) (hb : (rows.length + news.length) * eti.bytes ≤ 140737488355328) (hb2 : rows.length + news.length ≤ 9223372036854775807) (hr : rows ++ news = rows') (hm' : rows'.length = m')
    (hc : c.callee = .builtin .append) (ha : c.args.toList = [x, y]) (ht : c.argTypes.toList = [t, t]) (hE : elemT cfg.tab t = some (e, eti)) (hx : opA env x = .own r m) (ho : lookR obs r = some (.arr e' sz rows wr)) (he : e' = e) (hsz : sz = eti.size)
    (hy : opA env y = vy) : opV cfg fi call dst env obs (.call c) = some (.own r m', [(r, .arr e eti.size rows' wr)]) := by
  rw [← evAV_opA] at hx hy
  rw [← opV_eq]
  subst hr hm hm' he hsz
  simp only [stepV, stepOp, hc, ha, ht, builtinS, hE, appendS, hx, ho, hy, hB, hn, hl, hb, hb2, decide_true, beq_self_eq_true, Bool.and_self, when, if_true, Option.map_some]
/-- Numbers are appended. -/
theorem v_app_I {c : Call} {x y : Operand} {t e e' sz : Nat} {kk : TK} {zz : List AV} {qq : Bool} {r : Ref} {wr : Bool} {vy : AV} (a b : List Int) (hs : a.length + b.length ≤ 17592186044416)
    (hn : rowsOf (lookR obs) vy = rowsI b) (hB : rowsB (lookR obs) vy = true) (hc : c.callee = .builtin .append) (ha : c.args.toList = [x, y]) (ht : c.argTypes.toList = [t, t]) (hE : elemT cfg.tab t = some (e, ⟨kk, 1, 8, zz, qq⟩))
    (hx : opA env x = .own r (rowsI a).length) (ho : lookR obs r = some (.arr e' sz (rowsI a) wr)) (he : e' = e) (hsz : sz = 1) (hy : opA env y = vy) :
    opV cfg fi call dst env obs (.call c) = some (.own r (rowsI (a ++ b)).length, [(r, .arr e 1 (rowsI (a ++ b)) wr)]) :=
  v_append_own (eti := ⟨kk, 1, 8, zz, qq⟩) rfl hn hB (rowLens_I b) (by simp only [rowsI_length]; omega) (by simp only [rowsI_length]; omega) (rowsI_append a b).symm rfl hc ha ht hE hx ho he hsz hy
/-- The first ones are appended to nothing. -/
theorem v_append_nil {c : Call} {x y : Operand} {t e : Nat} {eti : TI} {m' : Nat} {news : List (List AV)} {vy : AV} (hn : rowsOf (lookR obs) vy = news) (hB : rowsB (lookR obs) vy = true)
    (hl : rowLens eti.size news = true) (hb : news.length * eti.bytes ≤ 140737488355328) (hb2 : news.length ≤ 9223372036854775807) (hm' : news.length = m')
    (hc : c.callee = .builtin .append) (ha : c.args.toList = [x, y]) (ht : c.argTypes.toList = [t, t]) (hE : elemT cfg.tab t = some (e, eti)) (hx : opA env x = .nils) (ho : lookR obs (.loc (dst.getD 99999) 0) = none)
    (hy : opA env y = vy) : opV cfg fi call dst env obs (.call c) = some (.own (.loc (dst.getD 99999) 0) m', [(.loc (dst.getD 99999) 0, .arr e eti.size news (cfg.wr fi (dst.getD 99999)))]) := by
  rw [← evAV_opA] at hx hy
  rw [← opV_eq]
  subst hm'
  simp only [stepV, stepOp, hc, ha, ht, builtinS, hE, appendS, hx, ho, hy, hB, hn, hl, hb, hb2, decide_true, Option.isNone_none, Bool.and_self, when, if_true, Option.map_some]
theorem v_slice_lo {t e : TypeId} {eti : TI} {x y : Operand} {k : IntKind} {i : Nat} {rows rows' : List (List AV)} (hl : rowLens eti.size rows = true) (hi : i ≤ rows.length) (hr : rows.drop i = rows') (hE : elemT cfg.tab t = some (e, eti))
    (hx : opA env x = .sl rows) (hy : opA env y = .int k (i : Int)) : opV cfg fi call dst env obs (.slice t x (some y) none none) = some (.sl rows', []) := by
  rw [← evAV_opA] at hx hy
  rw [← opV_eq]
  subst hr
  have h0 : (0 : Int) ≤ (i : Int) := Int.natCast_nonneg i
  have h1 : ((i : Nat) : Int).toNat = i := rfl
  simp only [stepV, stepOp, sliceS, hx, hE, frzS, clS, clB, bnd, hy, h0, h1, if_true, hl, hi, decide_true, Nat.le_refl, Bool.and_self, when, List.take_length, Step.freeze, Option.map_some]
theorem v_slice_hi {t e : TypeId} {eti : TI} {x y : Operand} {k : IntKind} {i : Nat} {rows rows' : List (List AV)} (hl : rowLens eti.size rows = true) (hi : i ≤ rows.length) (hr : rows.take i = rows') (hE : elemT cfg.tab t = some (e, eti))
    (hx : opA env x = .sl rows) (hy : opA env y = .int k (i : Int)) : opV cfg fi call dst env obs (.slice t x none (some y) none) = some (.sl rows', []) := by
  rw [← evAV_opA] at hx hy
  rw [← opV_eq]
  subst hr
  have h0 : (0 : Int) ≤ (i : Int) := Int.natCast_nonneg i
  have h1 : ((i : Nat) : Int).toNat = i := rfl
  simp only [stepV, stepOp, sliceS, hx, hE, frzS, clS, clB, bnd, hy, h0, h1, if_true, hl, hi, decide_true, Nat.zero_le, Bool.and_self, when, List.drop_zero, Step.freeze, Option.map_some]
theorem v_idx0 {t e : TypeId} {eti : TI} {x y : Operand} {rows : List (List AV)} {k : IntKind} {row : List AV} (hi : rows[0]? = some row) (hE : elemT cfg.tab t = some (e, eti)) (hx : opA env x = .sl rows) (hy : opA env y = .int k 0)
    (hl : row.length = eti.size) : opV cfg fi call dst env obs (.indexAddr t x y) = some (.rp row 0, []) := v_index_sl hE hx hy hi (Int.le_refl 0) hl
theorem v_idx {t e : TypeId} {eti : TI} {x y : Operand} {rows : List (List AV)} {k : IntKind} {i : Nat} {row : List AV} (hi : rows[i]? = some row) (hE : elemT cfg.tab t = some (e, eti)) (hx : opA env x = .sl rows) (hy : opA env y = .int k (i : Int))
    (hl : row.length = eti.size) : opV cfg fi call dst env obs (.indexAddr t x y) = some (.rp row 0, []) := v_index_sl hE hx hy hi (Int.natCast_nonneg i) hl
end

/-! ### All, some and the first of some numbers -/
def allD (p : Nat → Bool) : Nat → Nat → Bool
  | _, 0 => true
  | i, d + 1 => p i && allD p (i + 1) d
def allFrom (p : Nat → Bool) (i n : Nat) : Bool := allD p i (n - i)
theorem allFrom_lt (p : Nat → Bool) {i n : Nat} (h : i < n) : allFrom p i n = (p i && allFrom p (i + 1) n) := by
  unfold allFrom
  rw [show n - i = (n - (i + 1)) + 1 by omega]; rfl
theorem allFrom_ge (p : Nat → Bool) {i n : Nat} (h : n ≤ i) : allFrom p i n = true := by
  unfold allFrom
  rw [show n - i = 0 by omega]; rfl
theorem allFrom_iff (p : Nat → Bool) (i n : Nat) : allFrom p i n = true ↔ ∀ j, i ≤ j → j < n → p j = true := by
  unfold allFrom
  generalize hd : n - i = d
  induction d generalizing i with
  | zero => exact ⟨fun _ j h1 h2 => by omega, fun _ => rfl⟩
  | succ d ih =>
    rw [allD, Bool.and_eq_true, ih (i + 1) (by omega)]
    refine ⟨fun ⟨h1, h2⟩ j hj hn => ?_, fun h => ⟨h i (Nat.le_refl _) (by omega), fun j hj hn => h j (by omega) hn⟩⟩
    rcases Nat.lt_or_ge i j with h | h
    · exact h2 j h hn
    · rw [show j = i by omega]; exact h1
/-- The first number from i on, below i + d, that is so; -1. -/
def firstD (p : Nat → Bool) : Nat → Nat → Int
  | _, 0 => -1
  | i, d + 1 => if p i = true then (i : Int) else firstD p (i + 1) d
def firstFrom (p : Nat → Bool) (i n : Nat) : Int := firstD p i (n - i)
theorem firstFrom_lt (p : Nat → Bool) {i n : Nat} (h : i < n) : firstFrom p i n = if p i = true then (i : Int) else firstFrom p (i + 1) n := by
  unfold firstFrom
  rw [show n - i = (n - (i + 1)) + 1 by omega]; rfl
theorem firstFrom_ge (p : Nat → Bool) {i n : Nat} (h : n ≤ i) : firstFrom p i n = -1 := by
  unfold firstFrom
  rw [show n - i = 0 by omega]; rfl
end Go.Braid
