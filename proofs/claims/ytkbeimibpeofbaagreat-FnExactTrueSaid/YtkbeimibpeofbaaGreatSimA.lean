/- The abstract values, objects and the relation to the machine's memory; how a change of memory keeps what is told of it. -/
import Derived.Calls
import Derived.Orders
import Derived.Laws.AppendOwn
namespace Go.Sim

inductive Ref where
  | loc (d k : Nat)
  | out (j : Nat)
  deriving DecidableEq

inductive AV where
  | bool (b : Bool)
  | int (k : IntKind) (n : Int)
  | str (s : ByteArray)
  | sl (rows : List (List AV))
  | nils
  | nilp
  | own (r : Ref) (n : Nat)
  | ptr (r : Ref) (off : Nat)
  | eptr (r : Ref) (n i off : Nat)
  | rp (cells : List AV) (off : Nat)
  | clo (f : FuncId) (caps : List Ref)
  | agg (cells : List AV)
  | tup (vs : List AV)
  | junk

inductive Ob where
  | box (cells : List AV)
  | arr (e sz : Nat) (rows : List (List AV)) (wr : Bool)

abbrev Prot := Nat → Nat → Prop

/-- A closed value: what it reads lies in protected cells. -/
inductive RepC (Pr : Prot) (w : World) : AV → Value → Prop
  | bool (b : Bool) : RepC Pr w (.bool b) (.bool b)
  | int (k : IntKind) (n : Int) : RepC Pr w (.int k n) (.int k n)
  | str (s : ByteArray) : RepC Pr w (.str s) (.string s)
  | sl0 (A : Option Addr) (cap : Nat) (hcap : cap ≤ maxLen) : RepC Pr w (.sl []) (.slice A 0 cap)
  | sl (rows : List (List AV)) (b o cap sz : Nat) (cv : Nat → Nat → Value) (hn : rows.length ≤ cap) (hcap : cap ≤ maxLen)
      (hsz : ∀ row ∈ rows, row.length = sz)
      (hc : ∀ (i : Nat) (row : List AV) (j : Nat) (x : AV), rows[i]? = some row → row[j]? = some x →
        Pr b (o + (i * sz + j)) ∧ w.cell? ⟨b, o + (i * sz + j), none⟩ = some (cv i j))
      (hr : ∀ (i : Nat) (row : List AV) (j : Nat) (x : AV), rows[i]? = some row → row[j]? = some x → RepC Pr w x (cv i j)) :
      RepC Pr w (.sl rows) (.slice (some ⟨b, o, none⟩) rows.length cap)

structure Mem where
  obs : Ref → Option Ob
  mu : Ref → Option Nat
  Pr : Prot
  w : World

def OwnV (w : World) (e sz n : Nat) (m : Option Nat) (v : Value) : Prop :=
  match m with
  | none => n = 0 ∧ v = .slice none 0 0
  | some b => ∃ cap cur, w.heap[b]? = some (.cells cur e (0, 0)) ∧ cur.size = cap * sz ∧ n ≤ cap ∧ cap ≤ maxLen ∧ v = .slice (some ⟨b, 0, none⟩) n cap

/-- One cell's value. -/
def RepS (M : Mem) : AV → Value → Prop
  | .own r n, v => (∃ A m c, v = .slice A m c) ∧ ∃ e sz rows wr, M.obs r = some (.arr e sz rows wr) ∧ n ≤ rows.length ∧ (rows.length = n → OwnV M.w e sz n (M.mu r) v)
  | .ptr r off, v => ∃ cells b, M.obs r = some (.box cells) ∧ off ≤ cells.length ∧ M.mu r = some b ∧ v = .pointer (some ⟨b, off, none⟩)
  | .eptr r n i off, v => (∃ A, v = .pointer A) ∧ ∃ e sz rows wr, M.obs r = some (.arr e sz rows wr) ∧ n ≤ rows.length ∧
      (rows.length = n → ∃ b, M.mu r = some b ∧ v = .pointer (some ⟨b, i * sz + off, none⟩))
  | .rp cells off, v => ∃ b o, v = .pointer (some ⟨b, o + off, none⟩) ∧
      ∀ j x, cells[j]? = some x → M.Pr b (o + j) ∧ ∃ cv, M.w.cell? ⟨b, o + j, none⟩ = some cv ∧ RepC M.Pr M.w x cv
  | .clo f caps, v => ∃ bs : List Nat, v = .func (.func f) #[] (bs.map fun b => .pointer (some ⟨b, 0, none⟩)).toArray ∧ bs.length = caps.length ∧
      ∀ (j : Nat) (r : Ref), caps[j]? = some r → (∃ cells, M.obs r = some (.box cells)) ∧ M.mu r = bs[j]?
  | .nils, v => v = .slice none 0 0
  | .nilp, v => v = .pointer none
  | .junk, v => v.oneCell' = true
  | .agg _, _ => False
  | .tup _, _ => False
  | .bool b, v => v = .bool b
  | .int k n, v => v = .int k n
  | .str s, v => v = .string s
  | .sl rows, v => RepC M.Pr M.w (.sl rows) v

/-- A value that is no tuple. -/
def RepA (M : Mem) : AV → Value → Prop
  | .junk, _ => True
  | .agg cells, v => ∃ cs : Array Value, v = .agg cs ∧ cs.size = cells.length ∧ ∀ j x, cells[j]? = some x → RepS M x (cs.getD j undef)
  | x, v => RepS M x v

def RepV (M : Mem) : AV → Value → Prop
  | .tup vs, v => ∃ us : Array Value, v = .tuple us ∧ us.size = vs.length ∧ ∀ j x, vs[j]? = some x → RepA M x (us.getD j undef)
  | x, v => RepA M x v

def RepO (M : Mem) (r : Ref) : Ob → Prop
  | .box cells => ∃ b cs T, M.mu r = some b ∧ M.w.heap[b]? = some (.cells cs T (0, 0)) ∧ cs.size = cells.length ∧
      (∀ j x, cells[j]? = some x → RepS M x (cs.getD j undef)) ∧ ∀ o, ¬ M.Pr b o
  | .arr e sz rows wr => 0 < sz ∧ (∀ row ∈ rows, row.length = sz) ∧
      match M.mu r with
      | none => rows = []
      | some b => ∃ cs cap, M.w.heap[b]? = some (.cells cs e (0, 0)) ∧ cs.size = cap * sz ∧ rows.length ≤ cap ∧ cap ≤ maxLen ∧
          (∀ i row j x, rows[i]? = some row → row[j]? = some x → RepC M.Pr M.w x (cs.getD (i * sz + j) undef)) ∧
          (∀ o, M.Pr b o ↔ wr = false ∧ o < rows.length * sz)

/-- What a change of memory leaves as it was told. -/
structure Stab (M M' : Mem) : Prop where
  pr : ∀ b o, M.Pr b o → M'.Pr b o ∧ M'.w.cell? ⟨b, o, none⟩ = M.w.cell? ⟨b, o, none⟩
  box : ∀ r cells, M.obs r = some (.box cells) → ∃ cells', M'.obs r = some (.box cells') ∧ cells'.length = cells.length ∧ M'.mu r = M.mu r
  arr : ∀ r e sz rows wr, M.obs r = some (.arr e sz rows wr) → ∃ rows' wr', M'.obs r = some (.arr e sz rows' wr') ∧ rows.length ≤ rows'.length ∧
    (rows'.length = rows.length → M'.mu r = M.mu r ∧ ∀ b cur, M.mu r = some b → M.w.heap[b]? = some (.cells cur e (0, 0)) →
      ∃ cur', M'.w.heap[b]? = some (.cells cur' e (0, 0)) ∧ cur'.size = cur.size)

structure Ctx where
  M0 : Mem
  Own : Nat → Prop

structure MemOk (C : Ctx) (M : Mem) : Prop where
  obj : ∀ r o, M.obs r = some o → RepO M r o
  inj : ∀ r r' b, M.obs r ≠ none → M.obs r' ≠ none → M.mu r = some b → M.mu r' = some b → r = r'
  own : ∀ r b, M.obs r ≠ none → M.mu r = some b → C.Own b
  new : ∀ b, C.M0.w.heap.size ≤ b → C.Own b
  frame : ∀ b, ¬ C.Own b → M.w.heap[b]? = C.M0.w.heap[b]?
  le : C.M0.w.heap.size ≤ M.w.heap.size
  os : M.w.os = C.M0.w.os
  tape : M.w.tape = C.M0.w.tape
  output : M.w.output = C.M0.w.output
  prot : ∀ b o, M.Pr b o → ∃ v, M.w.cell? ⟨b, o, none⟩ = some v
  st : Stab C.M0 M
  fresh : ∀ b o, M.Pr b o → C.M0.Pr b o ∨ C.Own b

structure Rel (C : Ctx) (n : Nat) (env : Nat → AV) (M : Mem) (a : Act) : Prop where
  size : a.tmps.size = n
  defers : a.defers = []
  env : ∀ t, RepV M (env t) (a.tmps.getD t undef)
  mem : MemOk C M

theorem Stab.refl (M : Mem) : Stab M M :=
  ⟨fun _ _ h => ⟨h, rfl⟩, fun _ cells h => ⟨cells, h, rfl, rfl⟩, fun _ _ _ rows wr h => ⟨rows, wr, h, Nat.le_refl _, fun _ => ⟨rfl, fun _ cur _ h => ⟨cur, h, rfl⟩⟩⟩⟩

theorem Stab.trans {A B D : Mem} (h : Stab A B) (k : Stab B D) : Stab A D := by
  refine ⟨fun b o hp => ?_, fun r cells hr => ?_, fun r e sz rows wr hr => ?_⟩
  · obtain ⟨h1, h2⟩ := h.pr b o hp
    obtain ⟨k1, k2⟩ := k.pr b o h1
    exact ⟨k1, k2.trans h2⟩
  · obtain ⟨c1, h1, h2, h3⟩ := h.box r cells hr
    obtain ⟨c2, k1, k2, k3⟩ := k.box r c1 h1
    exact ⟨c2, k1, k2.trans h2, k3.trans h3⟩
  · obtain ⟨r1, w1, h1, h2, h3⟩ := h.arr r e sz rows wr hr
    obtain ⟨r2, w2, k1, k2, k3⟩ := k.arr r e sz r1 w1 h1
    refine ⟨r2, w2, k1, Nat.le_trans h2 k2, fun he => ?_⟩
    obtain ⟨h4, h5⟩ := h3 (by omega)
    obtain ⟨k4, k5⟩ := k3 (by omega)
    refine ⟨k4.trans h4, fun b cur hb hc => ?_⟩
    obtain ⟨cur1, h6, h7⟩ := h5 b cur hb hc
    obtain ⟨cur2, k6, k7⟩ := k5 b cur1 (h4.trans hb) h6
    exact ⟨cur2, k6, k7.trans h7⟩

theorem RepC.mono {Pr Pr' : Prot} {w w' : World} (h : ∀ b o, Pr b o → Pr' b o ∧ w'.cell? ⟨b, o, none⟩ = w.cell? ⟨b, o, none⟩) {x : AV} {v : Value}
    (hx : RepC Pr w x v) : RepC Pr' w' x v := by
  induction hx with
  | bool b => exact .bool b
  | int k n => exact .int k n
  | str s => exact .str s
  | sl0 A cap hcap => exact .sl0 A cap hcap
  | sl rows b o cap sz cv hn hcap hsz hc hr ih =>
    refine .sl rows b o cap sz cv hn hcap hsz (fun i row j x h1 h2 => ?_) ih
    obtain ⟨p, c⟩ := hc i row j x h1 h2
    obtain ⟨p', c'⟩ := h _ _ p
    exact ⟨p', c'.trans c⟩

theorem Stab.repC {M M' : Mem} (h : Stab M M') {x : AV} {v : Value} (hx : RepC M.Pr M.w x v) : RepC M'.Pr M'.w x v := hx.mono h.pr

theorem Stab.repS {M M' : Mem} (h : Stab M M') {x : AV} {v : Value} (hx : RepS M x v) : RepS M' x v := by
  cases x with
  | own r n =>
    obtain ⟨hs, e, sz, rows, wr, ho, hn, hv⟩ := hx
    obtain ⟨rows', wr', ho', hle, hk⟩ := h.arr r e sz rows wr ho
    refine ⟨hs, e, sz, rows', wr', ho', by omega, fun hl => ?_⟩
    have hl2 : rows'.length = rows.length := by omega
    have hv := hv (by omega)
    obtain ⟨hmu, hb⟩ := hk hl2
    rw [hmu]
    unfold OwnV at hv ⊢
    cases hm : M.mu r with
    | none => rw [hm] at hv; exact hv
    | some b =>
      rw [hm] at hv
      obtain ⟨cap, cur, h1, h2, h3, h4, h5⟩ := hv
      obtain ⟨cur', h6, h7⟩ := hb b cur hm h1
      exact ⟨cap, cur', h6, h7.trans h2, h3, h4, h5⟩
  | ptr r off =>
    obtain ⟨cells, b, ho, hl, hm, hv⟩ := hx
    obtain ⟨cells', ho', hl', hm'⟩ := h.box r cells ho
    exact ⟨cells', b, ho', by omega, hm'.trans hm, hv⟩
  | eptr r n i off =>
    obtain ⟨hs, e, sz, rows, wr, ho, hn, hv⟩ := hx
    obtain ⟨rows', wr', ho', hle, hk⟩ := h.arr r e sz rows wr ho
    refine ⟨hs, e, sz, rows', wr', ho', by omega, fun hl => ?_⟩
    have hl2 : rows'.length = rows.length := by omega
    obtain ⟨b, hm, hv⟩ := hv (by omega)
    exact ⟨b, (hk hl2).1.trans hm, hv⟩
  | rp cells off =>
    obtain ⟨b, o, hv, hc⟩ := hx
    refine ⟨b, o, hv, fun j x hj => ?_⟩
    obtain ⟨p, cv, c, r⟩ := hc j x hj
    obtain ⟨p', c'⟩ := h.pr _ _ p
    exact ⟨p', cv, c'.trans c, h.repC r⟩
  | clo f caps =>
    obtain ⟨bs, hv, hl, hc⟩ := hx
    refine ⟨bs, hv, hl, fun j r hj => ?_⟩
    obtain ⟨⟨cells, ho⟩, hm⟩ := hc j r hj
    obtain ⟨cells', ho', _, hm'⟩ := h.box r cells ho
    exact ⟨⟨cells', ho'⟩, hm'.trans hm⟩
  | sl rows => exact h.repC hx
  | _ => exact hx

theorem RepA.of {M : Mem} {x : AV} {v : Value} (h : RepS M x v) : RepA M x v := by
  cases x <;> first | trivial | exact h | exact h.elim
theorem RepV.of {M : Mem} {x : AV} {v : Value} (h : RepA M x v) : RepV M x v := by
  cases x <;> first | exact h | exact False.elim h
theorem RepA.split {M : Mem} {x : AV} {v : Value} (h : RepA M x v) : x = .junk ∨ (∃ cells, x = .agg cells) ∨ RepS M x v := by
  cases x <;> first | exact .inl rfl | exact .inr (.inl ⟨_, rfl⟩) | exact .inr (.inr h)
theorem RepV.split {M : Mem} {x : AV} {v : Value} (h : RepV M x v) : (∃ vs, x = .tup vs) ∨ RepA M x v := by
  cases x <;> first | exact .inl ⟨_, rfl⟩ | exact .inr h

theorem Stab.repA {M M' : Mem} (h : Stab M M') {x : AV} {v : Value} (hx : RepA M x v) : RepA M' x v := by
  rcases hx.split with rfl | ⟨cells, rfl⟩ | hs
  · trivial
  · obtain ⟨cs, h1, h2, h3⟩ := hx; exact ⟨cs, h1, h2, fun j x hj => h.repS (h3 j x hj)⟩
  · exact .of (h.repS hs)

theorem Stab.repV {M M' : Mem} (h : Stab M M') {x : AV} {v : Value} (hx : RepV M x v) : RepV M' x v := by
  rcases hx.split with ⟨vs, rfl⟩ | hs
  · obtain ⟨us, h1, h2, h3⟩ := hx; exact ⟨us, h1, h2, fun j x hj => h.repA (h3 j x hj)⟩
  · exact .of (h.repA hs)

/-- An object that the change does not touch. -/
theorem Stab.repO {M M' : Mem} (h : Stab M M') {r : Ref} {o : Ob} (hmu : M'.mu r = M.mu r)
    (hheap : ∀ b, M.mu r = some b → M'.w.heap[b]? = M.w.heap[b]?) (hpr : ∀ b o, M.mu r = some b → (M'.Pr b o ↔ M.Pr b o))
    (ho : RepO M r o) : RepO M' r o := by
  cases o with
  | box cells =>
    obtain ⟨b, cs, T, h1, h2, h3, h4, h5⟩ := ho
    exact ⟨b, cs, T, hmu.trans h1, (hheap b h1).trans h2, h3, fun j x hj => h.repS (h4 j x hj), fun o ho => h5 o ((hpr b o h1).1 ho)⟩
  | arr e sz rows wr =>
    obtain ⟨h0, hr, hm⟩ := ho
    refine ⟨h0, hr, ?_⟩
    rw [hmu]
    cases hb : M.mu r with
    | none => rw [hb] at hm; exact hm
    | some b =>
      rw [hb] at hm
      obtain ⟨cs, cap, h1, h2, h3, h4, h5, h6⟩ := hm
      exact ⟨cs, cap, (hheap b hb).trans h1, h2, h3, h4, fun i row j x hi hj => h.repC (h5 i row j x hi hj), fun o => (hpr b o hb).trans (h6 o)⟩

theorem RepC.one {Pr : Prot} {w : World} {x : AV} {v : Value} (h : RepC Pr w x v) : v.oneCell' = true := by cases h <;> rfl

theorem RepS.one {M : Mem} {x : AV} {v : Value} (h : RepS M x v) : v.oneCell' = true := by
  cases x with
  | own r n => obtain ⟨⟨_, _, _, rfl⟩, _⟩ := h; rfl
  | ptr r off => obtain ⟨_, _, _, _, _, rfl⟩ := h; rfl
  | eptr r n i off => obtain ⟨⟨_, rfl⟩, _⟩ := h; rfl
  | rp cells off => obtain ⟨_, _, rfl, _⟩ := h; rfl
  | clo f caps => obtain ⟨_, rfl, _⟩ := h; rfl
  | sl rows => exact RepC.one h
  | agg _ => exact h.elim
  | tup _ => exact h.elim
  | junk => exact h
  | nils => cases h; rfl
  | nilp => cases h; rfl
  | bool b => cases h; rfl
  | int k n => cases h; rfl
  | str s => cases h; rfl

end Go.Sim
