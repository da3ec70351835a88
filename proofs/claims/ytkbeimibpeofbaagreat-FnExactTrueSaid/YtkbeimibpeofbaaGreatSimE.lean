/- References named otherwise (as a callee knows them); what is read out of an array that stays. -/
import Derived.Test.YtkbeimibpeofbaaGreatSimD
namespace Go.Sim

def renAll (σ : Ref → Option Ref) : List Ref → Option (List Ref)
  | [] => some []
  | r :: rs => match σ r, renAll σ rs with
    | some q, some qs => some (q :: qs)
    | _, _ => none

/-- A cell's value. -/
def renS (σ : Ref → Option Ref) : AV → AV
  | .own r n => match σ r with | some q => .own q n | none => .junk
  | .ptr r off => match σ r with | some q => .ptr q off | none => .junk
  | .eptr r n i off => match σ r with | some q => .eptr q n i off | none => .junk
  | .clo f caps => match renAll σ caps with | some qs => .clo f qs | none => .junk
  | x => x
def renA (σ : Ref → Option Ref) : AV → AV
  | .agg cells => .agg (cells.map (renS σ))
  | x => renS σ x
def renV (σ : Ref → Option Ref) : AV → AV
  | .tup vs => .tup (vs.map (renA σ))
  | x => renA σ x
def renO (σ : Ref → Option Ref) : Ob → Ob
  | .box cells => .box (cells.map (renS σ))
  | .arr e sz rows wr => .arr e sz rows wr

structure RStab (σ : Ref → Option Ref) (M M' : Mem) : Prop where
  pr : ∀ b o, M.Pr b o → M'.Pr b o ∧ M'.w.cell? ⟨b, o, none⟩ = M.w.cell? ⟨b, o, none⟩
  box : ∀ r q cells, σ r = some q → M.obs r = some (.box cells) → ∃ cells', M'.obs q = some (.box cells') ∧ cells'.length = cells.length ∧ M'.mu q = M.mu r
  arr : ∀ r q e sz rows wr, σ r = some q → M.obs r = some (.arr e sz rows wr) → ∃ rows' wr', M'.obs q = some (.arr e sz rows' wr') ∧ rows.length ≤ rows'.length ∧
    (rows'.length = rows.length → M'.mu q = M.mu r ∧ ∀ b cur, M.mu r = some b → M.w.heap[b]? = some (.cells cur e (0, 0)) →
      ∃ cur', M'.w.heap[b]? = some (.cells cur' e (0, 0)) ∧ cur'.size = cur.size)

theorem renAll_get {σ : Ref → Option Ref} : ∀ {rs qs : List Ref}, renAll σ rs = some qs → qs.length = rs.length ∧ ∀ (j : Nat) (q : Ref), qs[j]? = some q → ∃ r, rs[j]? = some r ∧ σ r = some q := by
  intro rs
  induction rs with
  | nil => intro qs h; simp [renAll] at h; subst h; simp
  | cons r rs ih =>
    intro qs h
    simp only [renAll] at h
    split at h
    · rename_i q qs' h1 h2
      have := Option.some.inj h
      subst this
      obtain ⟨hl, hg⟩ := ih h2
      refine ⟨by simp [hl], fun j p hp => ?_⟩
      cases j with
      | zero => simp at hp; subst hp; exact ⟨r, by simp, h1⟩
      | succ j => simp at hp; obtain ⟨r', h3, h4⟩ := hg j p hp; exact ⟨r', by simpa using h3, h4⟩
    · simp at h

theorem RStab.repC {σ : Ref → Option Ref} {M M' : Mem} (h : RStab σ M M') {x : AV} {v : Value} (hx : RepC M.Pr M.w x v) : RepC M'.Pr M'.w x v := hx.mono h.pr

theorem RStab.repS {σ : Ref → Option Ref} {M M' : Mem} (h : RStab σ M M') {x : AV} {v : Value} (hx : RepS M x v) : RepS M' (renS σ x) v := by
  have h1 := hx.one
  cases x with
  | own r n =>
    simp only [renS]
    cases hσ : σ r with
    | none => exact h1
    | some q =>
      obtain ⟨hs, e, sz, rows, wr, ho, hn, hv⟩ := hx
      obtain ⟨rows', wr', ho', hle, hk⟩ := h.arr r q e sz rows wr hσ ho
      refine ⟨hs, e, sz, rows', wr', ho', by omega, fun hl => ?_⟩
      have hv := hv (by omega)
      obtain ⟨hmu, hb⟩ := hk (by omega)
      rw [hmu]
      unfold OwnV at hv ⊢
      cases hm : M.mu r with
      | none => rw [hm] at hv; exact hv
      | some b =>
        rw [hm] at hv
        obtain ⟨cap, cur, h1, h2, h3, h4, h5⟩ := hv
        obtain ⟨cur', h6, h7⟩ := hb b cur hm h1
        exact ⟨cap, cur', h6, h7.trans h2, h3, h4, h5⟩
  | ptr r off =>
    simp only [renS]
    cases hσ : σ r with
    | none => exact h1
    | some q =>
      obtain ⟨cells, b, ho, hl, hm, hv⟩ := hx
      obtain ⟨cells', ho', hl', hm'⟩ := h.box r q cells hσ ho
      exact ⟨cells', b, ho', by omega, hm'.trans hm, hv⟩
  | eptr r n i off =>
    simp only [renS]
    cases hσ : σ r with
    | none => exact h1
    | some q =>
      obtain ⟨hs, e, sz, rows, wr, ho, hn, hv⟩ := hx
      obtain ⟨rows', wr', ho', hle, hk⟩ := h.arr r q e sz rows wr hσ ho
      refine ⟨hs, e, sz, rows', wr', ho', by omega, fun hl => ?_⟩
      obtain ⟨b, hm, hv⟩ := hv (by omega)
      exact ⟨b, (hk (by omega)).1.trans hm, hv⟩
  | rp cells off =>
    obtain ⟨b, o, hv, hc⟩ := hx
    refine ⟨b, o, hv, fun j x hj => ?_⟩
    obtain ⟨p, cv, c, r⟩ := hc j x hj
    obtain ⟨p', c'⟩ := h.pr _ _ p
    exact ⟨p', cv, c'.trans c, h.repC r⟩
  | clo f caps =>
    simp only [renS]
    cases hσ : renAll σ caps with
    | none => exact h1
    | some qs =>
      obtain ⟨bs, hv, hl, hc⟩ := hx
      obtain ⟨hql, hqg⟩ := renAll_get hσ
      refine ⟨bs, hv, hl.trans hql.symm, fun j q hj => ?_⟩
      obtain ⟨r, hr, hrq⟩ := hqg j q hj
      obtain ⟨⟨cells, ho⟩, hm⟩ := hc j r hr
      obtain ⟨cells', ho', _, hm'⟩ := h.box r q cells hrq ho
      exact ⟨⟨cells', ho'⟩, hm'.trans hm⟩
  | sl rows => exact h.repC (x := .sl rows) hx
  | _ => exact hx

theorem renA_of {σ : Ref → Option Ref} {M : Mem} {x : AV} {v : Value} (h : RepS M (renS σ x) v) : RepA M (renA σ x) v := by
  cases x with
  | agg cells => exact False.elim h
  | _ => exact .of h

theorem RStab.repA {σ : Ref → Option Ref} {M M' : Mem} (h : RStab σ M M') {x : AV} {v : Value} (hx : RepA M x v) : RepA M' (renA σ x) v := by
  rcases hx.split with rfl | ⟨cells, rfl⟩ | hs
  · trivial
  · obtain ⟨cs, h1, h2, h3⟩ := hx
    refine ⟨cs, h1, by simpa using h2, fun j x hj => ?_⟩
    simp only [List.getElem?_map, Option.map_eq_some_iff] at hj
    obtain ⟨y, hy, rfl⟩ := hj
    exact h.repS (h3 j y hy)
  · exact renA_of (h.repS hs)

theorem renV_of {σ : Ref → Option Ref} {M : Mem} {x : AV} {v : Value} (h : RepA M (renA σ x) v) : RepV M (renV σ x) v := by
  cases x with
  | tup cells => exact False.elim h
  | _ => exact .of h

theorem RStab.repV {σ : Ref → Option Ref} {M M' : Mem} (h : RStab σ M M') {x : AV} {v : Value} (hx : RepV M x v) : RepV M' (renV σ x) v := by
  rcases hx.split with ⟨vs, rfl⟩ | hs
  · obtain ⟨us, h1, h2, h3⟩ := hx
    refine ⟨us, h1, by simpa using h2, fun j x hj => ?_⟩
    simp only [List.getElem?_map, Option.map_eq_some_iff] at hj
    obtain ⟨y, hy, rfl⟩ := hj
    exact h.repA (h3 j y hy)
  · exact renV_of (h.repA hs)

/-- An object, named otherwise, where its block stands. -/
theorem RStab.repO {σ : Ref → Option Ref} {M M' : Mem} (h : RStab σ M M') {r q : Ref} {o : Ob} (hmu : M'.mu q = M.mu r)
    (hheap : ∀ b, M.mu r = some b → M'.w.heap[b]? = M.w.heap[b]?) (hpr : ∀ b o, M.mu r = some b → (M'.Pr b o ↔ M.Pr b o))
    (ho : RepO M r o) : RepO M' q (renO σ o) := by
  cases o with
  | box cells =>
    obtain ⟨b, cs, T, h1, h2, h3, h4, h5⟩ := ho
    refine ⟨b, cs, T, hmu.trans h1, (hheap b h1).trans h2, by simpa using h3, fun j x hj => ?_, fun o ho => h5 o ((hpr b o h1).1 ho)⟩
    simp only [List.getElem?_map, Option.map_eq_some_iff] at hj
    obtain ⟨y, hy, rfl⟩ := hj
    exact h.repS (h4 j y hy)
  | arr e sz rows wr =>
    obtain ⟨h0, hr, hm⟩ := ho
    refine ⟨h0, hr, ?_⟩
    rw [hmu]
    cases hb : M.mu r with
    | none => rw [hb] at hm; exact hm
    | some b =>
      rw [hb] at hm
      obtain ⟨cs, cap, h1, h2, h3, h4, h5, h6⟩ := hm
      exact ⟨cs, cap, (hheap b hb).trans h1, h2, h3, h4, fun i row j x hi hj => h.repC (h5 i row j x hi hj), fun o => (hpr b o hb).trans (h6 o)⟩

/-- An array whose cells are protected, as a value. -/
theorem own_sl {C : Ctx} {M : Mem} (hM : MemOk C M) {r : Ref} {e sz n : Nat} {rows : List (List AV)} (hr : M.obs r = some (.arr e sz rows false)) (hn : rows.length = n) {v : Value}
    (hv : RepS M (.own r n) v) : RepC M.Pr M.w (.sl rows) v := by
  obtain ⟨_, e', sz', rows', wr', ho, _, hv⟩ := hv
  have : e = e' ∧ sz = sz' ∧ rows = rows' ∧ false = wr' := by simpa [hr] using ho
  obtain ⟨rfl, rfl, rfl, rfl⟩ := this
  have hv := hv hn
  obtain ⟨h0, hrows, hm⟩ := hM.obj r _ hr
  unfold OwnV at hv
  cases hb : M.mu r with
  | none =>
    rw [hb] at hv hm
    obtain ⟨rfl, rfl⟩ := hv
    subst hm
    exact .sl0 _ _ (by simp [maxLen])
  | some b =>
    rw [hb] at hv hm
    obtain ⟨cap, cur, g1, g2, g3, g4, rfl⟩ := hv
    obtain ⟨cs, cap', h1, h2, h3, h4, h5, h6⟩ := hm
    have : cs = cur := by rw [h1] at g1; simpa using g1
    subst this
    subst hn
    refine .sl rows b 0 cap sz (fun i j => cs.getD (i * sz + j) undef) g3 g4 hrows (fun i row j x hi hj => ?_) h5
    have hin : i < rows.length := (List.getElem?_eq_some_iff.1 hi).1
    have hjl : j < sz := by have := (List.getElem?_eq_some_iff.1 hj).1; rw [hrows row (List.mem_of_getElem? hi)] at this; exact this
    have hlt := mul_lt_mul_row hin hjl
    rw [Nat.zero_add]
    refine ⟨(h6 _).2 ⟨rfl, hlt⟩, ?_⟩
    rw [cell_of_row M.w b _ cs e (0, 0) h1]
    exact arr_getD (by rw [g2]; exact Nat.lt_of_lt_of_le hlt (Nat.mul_le_mul_right _ g3))

/-- An array is protected from here on. -/
theorem freeze_arr {C : Ctx} {M : Mem} (hM : MemOk C M) {r : Ref} {e sz : Nat} {rows : List (List AV)} {wr : Bool} (hr : M.obs r = some (.arr e sz rows wr)) :
    ∃ Pr', Stab M (M.put r (.arr e sz rows false) (M.mu r) Pr' M.w) ∧ MemOk C (M.put r (.arr e sz rows false) (M.mu r) Pr' M.w) := by
  obtain ⟨h0, hrows, hm⟩ := hM.obj r _ hr
  refine ⟨fun b o => M.Pr b o ∨ (M.mu r = some b ∧ o < rows.length * sz), ?_⟩
  have hch : Change M r (.arr e sz rows false) (M.mu r) (fun b o => M.Pr b o ∨ (M.mu r = some b ∧ o < rows.length * sz)) M.w := by
    refine ⟨Nat.le_refl _, fun _ _ _ => rfl, fun b o hp => ⟨.inl hp, rfl⟩, fun b o hp hn => ?_, fun b hb => .inl ⟨by simp [hr], hb⟩, rfl, rfl, rfl, fun cells h => by simp [hr] at h, fun e' sz' rows' wr' h => ?_⟩
    · rcases hp with hp | ⟨hb, ho⟩
      · exact absurd hp hn
      · refine ⟨hb, ?_⟩
        rw [hb] at hm
        obtain ⟨cs, cap, h1, h2, h3, _⟩ := hm
        rw [cell_of_row M.w b _ cs e (0, 0) h1]
        exact ⟨_, arr_getD (by rw [h2]; exact Nat.lt_of_lt_of_le ho (Nat.mul_le_mul_right _ h3))⟩
    · have : e = e' ∧ sz = sz' ∧ rows = rows' ∧ wr = wr' := by simpa [hr] using h
      obtain ⟨rfl, rfl, rfl, rfl⟩ := this
      exact ⟨_, _, rfl, Nat.le_refl _, fun _ => ⟨rfl, fun b cur _ hb => ⟨cur, hb, rfl⟩⟩⟩
  have hst := hch.stab hM
  refine ⟨hst, hch.ok hM ⟨h0, hrows, ?_⟩⟩
  rw [show (M.put r (.arr e sz rows false) (M.mu r) (fun b o => M.Pr b o ∨ (M.mu r = some b ∧ o < rows.length * sz)) M.w).mu r = M.mu r from upd_same _ _ _]
  cases hb : M.mu r with
  | none => rw [hb] at hm; exact hm
  | some b =>
    rw [hb] at hm hst
    obtain ⟨cs, cap, h1, h2, h3, h4, h5, h6⟩ := hm
    refine ⟨cs, cap, h1, h2, h3, h4, fun i row j x hi hj => hst.repC (h5 i row j x hi hj), fun o => ⟨fun hp => ?_, fun hp => .inr ⟨rfl, hp.2⟩⟩⟩
    rcases hp with hp | ⟨_, hp⟩
    · exact ⟨rfl, ((h6 o).1 hp).2⟩
    · exact ⟨rfl, hp⟩

end Go.Sim
