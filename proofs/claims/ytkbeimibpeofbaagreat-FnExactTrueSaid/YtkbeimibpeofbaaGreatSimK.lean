/- Slices: lengths, parts, appended to, made; structs built; texts; numbers of other kinds. -/
import Derived.Test.YtkbeimibpeofbaaGreatSimJ
namespace Go.Sim

def allP {α : Type} (p : α → Prop) : List α → Prop
  | [] => True
  | x :: xs => p x ∧ allP p xs

theorem allP_mem {α : Type} {p : α → Prop} : ∀ {l : List α}, allP p l → ∀ x ∈ l, p x := by
  intro l
  induction l with
  | nil => intro _ x hx; cases hx
  | cons y ys ih =>
    intro h x hx
    cases hx with
    | head => exact h.1
    | tail _ hx => exact ih h.2 x hx

/-- A cell's value as it stays in immutable memory: an array object that is protected is told by its rows. -/
def clS (obs : Ref → Option Ob) : AV → AV
  | .own r _ => match obs r with
    | some (.arr _ _ rows _) => .sl rows
    | _ => .junk
  | .nils => .sl []
  | x => x

/-- What that asks for. -/
def clOk (obs : Ref → Option Ob) : AV → Prop
  | .own r n => match obs r with
    | some (.arr _ _ rows wr) => rows.length = n ∧ wr = false
    | _ => False
  | .nils => True
  | .bool _ => True
  | .int _ _ => True
  | .str _ => True
  | .sl _ => True
  | _ => False

def refs1 (obs : Ref → Option Ob) : AV → List (Ref × Ob)
  | .own r _ => match obs r with
    | some ob => [(r, ob)]
    | none => []
  | _ => []

theorem clS_rep {C : Ctx} {M : Mem} (hM : MemOk C M) {obs : Ref → Option Ob} {x : AV} (h : clOk obs x) (hR : ∀ p ∈ refs1 obs x, M.obs p.1 = some p.2) {v : Value} (hv : RepS M x v) : RepC M.Pr M.w (clS obs x) v := by
  cases x with
  | own r n =>
    simp only [clOk] at h
    simp only [clS]
    cases ho : obs r with
    | none => rw [ho] at h; exact h.elim
    | some ob =>
      rw [ho] at h
      cases ob with
      | box cells => exact h.elim
      | arr e sz rows wr =>
        obtain ⟨h1, rfl⟩ := h
        have := hR (r, .arr e sz rows false) (by simp [refs1, ho])
        exact own_sl hM this h1 hv
  | nils => cases hv; exact .sl0 _ _ (by simp [maxLen])
  | bool b => cases hv; exact .bool b
  | int k i => cases hv; exact .int k i
  | str s => cases hv; exact .str s
  | sl rows => exact hv
  | _ => exact h.elim

theorem closed_map {C : Ctx} {obs : Ref → Option Ob} {xs : List AV} (h : allP (clOk obs) xs) (M : Mem) (hM : MemOk C M) (hR : ∀ p ∈ xs.flatMap (refs1 obs), M.obs p.1 = some p.2) :
    ∀ (j : Nat) z z' u, xs[j]? = some z → (xs.map (clS obs))[j]? = some z' → RepS M z u → RepC M.Pr M.w z' u := by
  intro j z z' u hz hz' hu
  simp only [List.getElem?_map, hz, Option.map_some, Option.some.injEq] at hz'
  subst hz'
  have hm := List.mem_of_getElem? hz
  exact clS_rep hM (allP_mem h z hm) (fun p hp => hR p (List.mem_flatMap.2 ⟨z, hm, hp⟩)) hu

/-- The rows that a slice's value has, read now. -/
def rowsOf (obs : Ref → Option Ob) : AV → List (List AV)
  | .sl rows => rows
  | .own r _ => match obs r with
    | some (.arr _ _ rows _) => rows
    | _ => []
  | _ => []

def rowsOk (obs : Ref → Option Ob) : AV → Prop
  | .sl _ => True
  | .nils => True
  | .own r n => match obs r with
    | some (.arr _ _ rows _) => rows.length = n
    | _ => False
  | _ => False

/-- A slice that is read: its cells. -/
theorem rows_read {C : Ctx} {M : Mem} (hM : MemOk C M) {obs : Ref → Option Ob} {x : AV} (h : rowsOk obs x) (hR : ∀ p ∈ refs1 obs x, M.obs p.1 = some p.2) {v : Value} (hv : RepS M x v) {sz : Nat}
    (hsz : ∀ row ∈ rowsOf obs x, row.length = sz) :
    ∃ A c news, v = .slice A (rowsOf obs x).length c ∧ Flat M.Pr M.w sz (rowsOf obs x) news ∧ ∀ (j : Nat) u, news[j]? = some u → ∃ ad, A = some ad ∧ M.w.cell? (ad.add j) = some u := by
  cases x with
  | nils => cases hv; exact ⟨none, 0, [], rfl, ⟨by simp [rowsOf], by simp [rowsOf], fun i row j x hi => by simp [rowsOf] at hi⟩, fun j u hu => by simp at hu⟩
  | sl rows =>
    have hv : RepC M.Pr M.w (.sl rows) v := hv
    simp only [rowsOf] at hsz ⊢
    cases hv with
    | sl0 A cap _ => exact ⟨A, cap, [], rfl, ⟨by simp, by simp, fun i row j x hi => by simp at hi⟩, fun j u hu => by simp at hu⟩
    | sl _ b o cap sz' cv hn hcap hsz' hc hr =>
      have hrow : ∀ k, k < rows.length * sz → ∃ i row j x, rows[i]? = some row ∧ row[j]? = some x ∧ k = i * sz + j := by
        intro k hk
        have h0 : 0 < sz := by
          rcases Nat.eq_zero_or_pos sz with h0 | h0
          · subst h0; simp at hk
          · exact h0
        have hi : k / sz < rows.length := Nat.div_lt_of_lt_mul (by rw [Nat.mul_comm]; exact hk)
        have hj : k % sz < (rows[k / sz]).length := by rw [hsz _ (List.getElem_mem hi)]; exact Nat.mod_lt _ h0
        exact ⟨k / sz, _, k % sz, _, List.getElem?_eq_getElem hi, List.getElem?_eq_getElem hj, by rw [Nat.mul_comm]; exact (Nat.div_add_mod k sz).symm⟩
      have hszz : ∀ i row, rows[i]? = some row → sz' = sz := fun i row hi => (hsz' row (List.mem_of_getElem? hi)).symm.trans (hsz row (List.mem_of_getElem? hi))
      refine ⟨_, cap, (List.range (rows.length * sz)).map fun k => (M.w.cell? ⟨b, o + k, none⟩).getD undef, rfl, ⟨by simp, hsz, fun i row j x hi hj => ?_⟩, fun k u hu => ⟨_, rfl, ?_⟩⟩
      · have hs := hszz i row hi
        subst hs
        obtain ⟨_, c⟩ := hc i row j x hi hj
        have hlt := mul_lt_mul_row (List.getElem?_eq_some_iff.1 hi).1 (show j < sz' by rw [← hsz row (List.mem_of_getElem? hi)]; exact (List.getElem?_eq_some_iff.1 hj).1)
        exact ⟨cv i j, by simp [hlt, c], hr i row j x hi hj⟩
      · have hk : k < rows.length * sz := by have := (List.getElem?_eq_some_iff.1 hu).1; simpa using this
        obtain ⟨i, row, j, x, hi, hj, rfl⟩ := hrow k hk
        have hs := hszz i row hi
        subst hs
        obtain ⟨_, c⟩ := hc i row j x hi hj
        rw [addr_add, c]
        simp [hk, c] at hu
        rw [hu]
  | own r n =>
    simp only [rowsOk] at h
    cases ho : obs r with
    | none => rw [ho] at h; exact h.elim
    | some ob =>
      rw [ho] at h
      cases ob with
      | box cells => exact h.elim
      | arr e sz' rows wr =>
        have hm := hR (r, .arr e sz' rows wr) (by simp [refs1, ho])
        simp only [rowsOf, ho] at hsz ⊢
        obtain ⟨_, e', sz2, rows', wr', h3, h4, hvv⟩ := hv
        have : e = e' ∧ sz' = sz2 ∧ rows = rows' ∧ wr = wr' := by rw [hm] at h3; simpa using h3
        obtain ⟨rfl, rfl, rfl, rfl⟩ := this
        have h : rows.length = n := h
        have hvv := hvv h
        obtain ⟨h0, hrows, hmm⟩ := hM.obj r _ hm
        unfold OwnV at hvv
        cases hb : M.mu r with
        | none =>
          rw [hb] at hvv hmm
          obtain ⟨rfl, rfl⟩ := hvv
          have hmm : rows = [] := hmm
          subst hmm
          exact ⟨none, 0, [], rfl, ⟨by simp, by simp, fun i row j x hi => by simp at hi⟩, fun j u hu => by simp at hu⟩
        | some b =>
          rw [hb] at hvv hmm
          obtain ⟨cap, cur, g1, g2, g3, g4, rfl⟩ := hvv
          obtain ⟨cs, cap', k1, k2, k3, k4, k5, k6⟩ := hmm
          have : cs = cur := by rw [k1] at g1; simpa using g1
          subst this
          refine ⟨_, cap, cs.toList.take (rows.length * sz'), by rw [h], ?_, fun j u hu => ⟨_, rfl, ?_⟩⟩
          · have hF := flat_of (Pr := M.Pr) (w := M.w) cs cap' k2 k3 hrows k5
            by_cases hr0 : rows = []
            · subst hr0
              exact ⟨by simp, by simp, fun i row j x hi => by simp at hi⟩
            · obtain ⟨row, rest, rfl⟩ := List.exists_cons_of_ne_nil hr0
              have : sz' = sz := (hrows row (.head _)).symm.trans (hsz row (.head _))
              subst this
              exact hF
          · rw [addr_add, cell_of_row M.w b _ cs e (0, 0) k1, Nat.zero_add]
            rw [List.getElem?_take] at hu
            split at hu
            · simpa using hu
            · simp at hu
  | _ => exact h.elim

section
variable {P : Program} {n : Nat} {o : Oper} (hd : ∀ d, o.dst = some d → d < n)
include hd

omit hd in
theorem run_call_builtin {a : Act} {c : Call} {b : Builtin} (ho : o.op = .call c) (hc : c.callee = .builtin b) {w w' : World} {v : Next}
    (h : (builtin b c.argTypes o.type (c.args.map fun | .const _ => true | _ => false) (c.args.map a.eval)).run P w = .ok v w') : (execOp a.eval o).run P w = .ok v w' := by
  simp [execOp, ho, resolve, hc, invoke]
  exact h

theorem ls_append {c : Call} (ho : o.op = .call c) (hc : c.callee = .builtin .append) {x y : Operand} {t e : TypeId} (ha : c.args = #[x, y]) (hat : c.argTypes = #[t, t])
    {ti eti : TI} (hT : TIok P t ti) (hk : ti.k = .slice e) (hE : TIok P e eti) (h0 : 0 < eti.size) {r : Ref} {rows : List (List AV)} {wr : Bool} {vx vy : AV}
    (obs : Ref → Option Ob) (hy : rowsOk obs vy) (hrow : ∀ row ∈ rowsOf obs vy, row.length = eti.size) (R : List (Ref × Ob)) (Nw : List Ref) (hR : ∀ p ∈ refs1 obs vy, p ∈ R)
    (hx : (vx = .nils ∧ rows = [] ∧ r ∈ Nw) ∨ (vx = .own r rows.length ∧ (r, Ob.arr e eti.size rows wr) ∈ R))
    (hb : (rows.length + (rowsOf obs vy).length) * eti.bytes ≤ 140737488355328) (h63 : rows.length + (rowsOf obs vy).length ≤ 9223372036854775807) :
    LStep P n o ⟨[(x, vx), (y, vy)], R, Nw, .own r (rows ++ rowsOf obs vy).length, [(r, .arr e eti.size (rows ++ rowsOf obs vy) wr)]⟩ := by
  refine .val hd fun C env M a hRl h1 h2 h3 => ?_
  have hxv := hRl.ev x
  rw [h1 (x, vx) (by simp)] at hxv
  have hyv := hRl.ev y
  rw [h1 (y, vy) (by simp)] at hyv
  have hys : RepS M vy (a.eval y) := by cases vy <;> first | exact hyv | exact hy.elim
  obtain ⟨A, cp, news, hv, hF, hA⟩ := rows_read hRl.mem hy (fun p hp => h2 p (hR p hp)) hys hrow
  obtain ⟨info, z, d, g1, g2, g3, g4, g5, g6, g7, g8, g9⟩ := hE
  obtain ⟨d', g10, g11⟩ := hT.und
  rw [hk] at g11
  have : d' = .slice e := g11
  subst this
  have hB : Base M r e eti.size rows wr (a.eval x) := by
    rcases hx with ⟨rfl, rfl, hn⟩ | ⟨rfl, hm⟩
    · exact .inl ⟨h3 r hn, rfl, hxv⟩
    · have hob := h2 _ hm
      obtain ⟨_, e', sz', rows', wr', k1, _, k2⟩ := hxv
      have : e = e' ∧ eti.size = sz' ∧ rows = rows' ∧ wr = wr' := by rw [show M.obs r = some (.arr e eti.size rows wr) from hob] at k1; simpa using k1
      obtain ⟨rfl, rfl, rfl, rfl⟩ := this
      exact .inr ⟨hob, k2 rfl⟩
  obtain ⟨v', m', Pr', w', hrun, hst, hM, hrep⟩ := append_arr (P := P) hRl.mem t o.type e info z g10 g1 g2 g3 g7 h0 hB (rowsOf obs vy) news hF A cp hA (by rw [g4]; exact hb) h63
  refine ⟨v', _, ?_, hst, hM, by simp [Mem.put, updAll_one], .of (.of hrep)⟩
  refine run_call_builtin ho hc ?_
  rw [ha, hat]
  simp [builtin, hv, hrun, Mem.put]

theorem ls_len_sl {c : Call} (ho : o.op = .call c) (hc : c.callee = .builtin .len) {x : Operand} {t e : TypeId} (ha : c.args = #[x]) (hat : c.argTypes = #[t])
    {ti : TI} (hT : TIok P t ti) (hk : ti.k = .slice e) {vx : AV} (obs : Ref → Option Ob) (hx : rowsOk obs vx) (R : List (Ref × Ob)) (hR : ∀ p ∈ refs1 obs vx, p ∈ R) :
    LStep P n o ⟨[(x, vx)], R, [], .int .i64 (rowsOf obs vx).length, []⟩ := by
  refine .pure hd fun C env M a hRl h1 h2 => ?_
  have hxv := hRl.ev x
  rw [h1 (x, vx) (by simp)] at hxv
  obtain ⟨d', g10, g11⟩ := hT.und
  rw [hk] at g11
  have : d' = .slice e := g11
  subst this
  have hs : ∃ A cp, a.eval x = .slice A (rowsOf obs vx).length cp := by
    cases vx with
    | nils => exact ⟨none, 0, hxv⟩
    | sl rows =>
      have hv : RepC M.Pr M.w (.sl rows) (a.eval x) := hxv
      generalize a.eval x = v at hv
      cases hv with
      | sl0 A cap _ => exact ⟨A, cap, rfl⟩
      | sl _ b o cap sz' cv hn hcap hsz' hc hr => exact ⟨_, cap, rfl⟩
    | own r m =>
      simp only [rowsOk] at hx
      cases hob : obs r with
      | none => rw [hob] at hx; exact hx.elim
      | some ob =>
        rw [hob] at hx
        cases ob with
        | box cells => exact hx.elim
        | arr e' sz' rows wr =>
          have hm := h2 (r, .arr e' sz' rows wr) (hR _ (by simp [refs1, hob]))
          obtain ⟨_, e2, sz2, rows', wr', h3, h4, hvv⟩ := hxv
          have : e' = e2 ∧ sz' = sz2 ∧ rows = rows' ∧ wr = wr' := by rw [show M.obs r = some (.arr e' sz' rows wr) from hm] at h3; simpa using h3
          obtain ⟨rfl, rfl, rfl, rfl⟩ := this
          have hx : rows.length = m := hx
          have hvv := hvv hx
          simp only [rowsOf, hob]
          unfold OwnV at hvv
          cases hb : M.mu r with
          | none => rw [hb] at hvv; exact ⟨none, 0, by rw [hvv.2, hx, hvv.1]⟩
          | some b => rw [hb] at hvv; obtain ⟨cap, cur, _, _, _, _, hv⟩ := hvv; exact ⟨_, cap, by rw [hv, hx]⟩
    | _ => exact hx.elim
  obtain ⟨A, cp, hv⟩ := hs
  refine ⟨.int .i64 (rowsOf obs vx).length, ?_, .of (.of rfl)⟩
  refine run_call_builtin ho hc ?_
  rw [ha, hat]
  simp [builtin, hv, Builtin.len_, run_underlying g10, goInt]

theorem ls_len_str {c : Call} (ho : o.op = .call c) (hc : c.callee = .builtin .len) {x : Operand} {t : TypeId} (ha : c.args = #[x]) (hat : c.argTypes = #[t])
    {ti : TI} (hT : TIok P t ti) (hk : ti.k = .str) {s : ByteArray} : LStep P n o ⟨[(x, .str s)], [], [], .int .i64 s.size, []⟩ := by
  refine .pure hd fun C env M a hRl h1 h2 => ?_
  have hxv := hRl.ev x
  rw [h1 (x, .str s) (by simp)] at hxv
  have hv := rep_str hxv
  obtain ⟨d', g10, g11⟩ := hT.und
  rw [hk] at g11
  have : d' = .string := g11
  subst this
  refine ⟨.int .i64 s.size, ?_, .of (.of rfl)⟩
  refine run_call_builtin ho hc ?_
  rw [ha, hat]
  simp [builtin, hv, Builtin.len_, run_underlying g10, goInt]

theorem ls_max {c : Call} {mx : Bool} (ho : o.op = .call c) (hc : c.callee = .builtin (if mx then .max else .min)) {x y : Operand} (ha : c.args = #[x, y]) {k j : IntKind} {p q : Int} :
    LStep P n o ⟨[(x, .int k p), (y, .int j q)], [], [], .int k (if mx then (if q > p then q else p) else (if q < p then q else p)), []⟩ := by
  refine .pure hd fun C env M a hRl h1 h2 => ?_
  have hxv := hRl.ev x
  rw [h1 (x, .int k p) (by simp)] at hxv
  have hyv := hRl.ev y
  rw [h1 (y, .int j q) (by simp)] at hyv
  have hv := rep_int hxv
  have hw := rep_int hyv
  refine ⟨.int k (if mx then (if q > p then q else p) else (if q < p then q else p)), ?_, .of (.of rfl)⟩
  refine run_call_builtin ho hc ?_
  rw [ha]
  cases mx <;> simp [builtin, hv, hw, Builtin.max_, Builtin.min_, Builtin.max2, Builtin.min2]
end

end Go.Sim
