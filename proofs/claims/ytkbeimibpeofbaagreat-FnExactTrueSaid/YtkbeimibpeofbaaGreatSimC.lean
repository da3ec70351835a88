/- Objects written and grown. -/
import Derived.Test.YtkbeimibpeofbaaGreatSimB
namespace Go.Sim

def splice {α : Type} (l : List α) (off : Nat) (xs : List α) : List α := l.take off ++ xs ++ l.drop (off + xs.length)

theorem splice_length {α : Type} (l : List α) (off : Nat) (xs : List α) (h : off + xs.length ≤ l.length) : (splice l off xs).length = l.length := by
  simp [splice]; omega

theorem splice_get {α : Type} (l : List α) (off : Nat) (xs : List α) (h : off + xs.length ≤ l.length) (j : Nat) :
    (splice l off xs)[j]? = if off ≤ j ∧ j < off + xs.length then xs[j - off]? else l[j]? := by
  unfold splice
  have h1 : (l.take off).length = off := by simp; omega
  by_cases hj : j < off
  · rw [List.append_assoc, List.getElem?_append_left (by omega), List.getElem?_take_of_lt hj, if_neg (by omega)]
  · by_cases hj2 : j < off + xs.length
    · rw [List.getElem?_append_left (by simp; omega), List.getElem?_append_right (by omega), h1, if_pos ⟨by omega, hj2⟩]
    · rw [List.getElem?_append_right (by simp; omega), List.getElem?_drop, if_neg (by omega)]
      congr 1
      simp
      omega

theorem getD_toArray {α : Type} (l : List α) (j : Nat) (d : α) : l.toArray.getD j d = l[j]?.getD d := by
  simp [Array.getD_eq_getD_getElem?]

theorem arr_getD {cs : Array Value} {j : Nat} (h : j < cs.size) : cs[j]? = some (cs.getD j undef) := by
  simp [Array.getD_eq_getD_getElem?, h]

/-- Cells of a box are written. -/
theorem store_box {C : Ctx} {M : Mem} (hM : MemOk C M) {r : Ref} {cells : List AV} (hr : M.obs r = some (.box cells)) (off : Nat) (xs : List AV) (vs : List Value)
    (hl : off + xs.length ≤ cells.length) (hvl : vs.length = xs.length) (hrep : ∀ (j : Nat) x v, xs[j]? = some x → vs[j]? = some v → RepS M x v) :
    ∃ b cs T, M.mu r = some b ∧ M.w.heap[b]? = some (.cells cs T (0, 0)) ∧ off + vs.length ≤ cs.size ∧
      Stab M (M.put r (.box (splice cells off xs)) (M.mu r) M.Pr (M.w.setRow b (splice cs.toList off vs).toArray)) ∧
      MemOk C (M.put r (.box (splice cells off xs)) (M.mu r) M.Pr (M.w.setRow b (splice cs.toList off vs).toArray)) := by
  obtain ⟨b, cs, T, h1, h2, h3, h4, h5⟩ := hM.obj r _ hr
  have hcl : cs.toList.length = cells.length := by simpa using h3
  have hch : Change M r (.box (splice cells off xs)) (M.mu r) M.Pr (M.w.setRow b (splice cs.toList off vs).toArray) := by
    refine ⟨by simp, fun k hk hne => setRow_other M.w b k _ (fun e => hne (by simp [hr]) (e ▸ h1)), fun k o hp => ⟨hp, ?_⟩, fun k o h hn => absurd h hn,
      fun k hk => .inl ⟨by simp [hr], hk⟩, rfl, rfl, rfl, fun cells' h => ?_, fun e sz rows wr h => by simp [hr] at h⟩
    · have hkb : k ≠ b := fun e => h5 o (e ▸ hp)
      exact cell_setRow_other M.w b _ ⟨k, o, none⟩ hkb
    · have : cells' = cells := by simpa [hr] using h.symm
      subst this
      exact ⟨_, rfl, splice_length _ _ _ hl, rfl⟩
  have hst := hch.stab hM
  have hb := setRow_heap M.w b cs (splice cs.toList off vs).toArray T (0, 0) h2
  refine ⟨b, cs, T, h1, h2, by omega, hst, hch.ok hM ⟨b, _, T, (upd_same _ _ _).trans h1, hb, ?_, fun j x hj => ?_, h5⟩⟩
  · rw [List.size_toArray, splice_length _ _ _ (by omega), splice_length _ _ _ hl, hcl]
  · apply hst.repS
    rw [getD_toArray, splice_get _ _ _ (by omega)]
    rw [splice_get _ _ _ hl] at hj
    rw [hvl]
    split
    · rename_i hc
      rw [if_pos hc] at hj
      have hv : vs[j - off]? = some vs[j - off] := List.getElem?_eq_getElem (by omega)
      rw [hv]
      exact hrep _ _ _ hj hv
    · rename_i hc
      rw [if_neg hc] at hj
      have := h4 j x hj
      simpa [Array.getD_eq_getD_getElem?] using this

theorem mul_lt_mul_row {i n sz j : Nat} (hi : i < n) (hj : j < sz) : i * sz + j < n * sz := by
  have : (i + 1) * sz ≤ n * sz := Nat.mul_le_mul_right _ hi
  rw [Nat.add_mul, Nat.one_mul] at this
  omega

theorem row_inj {i i' sz j j' : Nat} (hj : j < sz) (hj' : j' < sz) (h : i * sz + j = i' * sz + j') : i = i' ∧ j = j' := by
  have h0 : 0 < sz := by omega
  have hi : i = i' := by
    have h1 : (i * sz + j) / sz = i := by rw [Nat.mul_comm, Nat.mul_add_div h0, Nat.div_eq_of_lt hj]; rfl
    have h2 : (i' * sz + j') / sz = i' := by rw [Nat.mul_comm, Nat.mul_add_div h0, Nat.div_eq_of_lt hj']; rfl
    rw [← h1, ← h2, h]
  subst hi
  exact ⟨rfl, by omega⟩

/-- Cells of element i of an array that may be written. -/
theorem store_arr {C : Ctx} {M : Mem} (hM : MemOk C M) {r : Ref} {e sz : Nat} {rows : List (List AV)} (hr : M.obs r = some (.arr e sz rows true)) (i : Nat) (row : List AV) (hi : rows[i]? = some row)
    (off : Nat) (xs : List AV) (vs : List Value) (hl : off + xs.length ≤ row.length) (hvl : vs.length = xs.length)
    (hrep : ∀ (j : Nat) x v, xs[j]? = some x → vs[j]? = some v → RepC M.Pr M.w x v) :
    ∃ b cs, M.mu r = some b ∧ M.w.heap[b]? = some (.cells cs e (0, 0)) ∧ (i * sz + off) + vs.length ≤ cs.size ∧
      Stab M (M.put r (.arr e sz (rows.set i (splice row off xs)) true) (M.mu r) M.Pr (M.w.setRow b (splice cs.toList (i * sz + off) vs).toArray)) ∧
      MemOk C (M.put r (.arr e sz (rows.set i (splice row off xs)) true) (M.mu r) M.Pr (M.w.setRow b (splice cs.toList (i * sz + off) vs).toArray)) := by
  obtain ⟨h0, hrows, hm⟩ := hM.obj r _ hr
  have hin : i < rows.length := (List.getElem?_eq_some_iff.1 hi).1
  have hrl : row.length = sz := hrows row (List.mem_of_getElem? hi)
  cases hmu : M.mu r with
  | none => rw [hmu] at hm; subst hm; simp at hi
  | some b =>
    rw [hmu] at hm
    obtain ⟨cs, cap, h1, h2, h3, h4, h5, h6⟩ := hm
    have hpr : ∀ o, ¬ M.Pr b o := fun o hp => by have := (h6 o).1 hp; simp at this
    have hsz : (i * sz + off) + vs.length ≤ cs.size := by
      rw [h2]
      have := mul_lt_mul_row (j := sz - 1) (sz := sz) hin (by omega)
      have h7 : rows.length * sz ≤ cap * sz := Nat.mul_le_mul_right _ h3
      omega
    have hch : Change M r (.arr e sz (rows.set i (splice row off xs)) true) (some b) M.Pr (M.w.setRow b (splice cs.toList (i * sz + off) vs).toArray) := by
      refine ⟨by simp, fun k hk hne => setRow_other M.w b k _ (fun e => hne (by simp [hr]) (e ▸ hmu)), fun k o hp => ⟨hp, ?_⟩, fun k o h hn => absurd h hn,
        fun k hk => .inl ⟨by simp [hr], hmu.trans hk⟩, rfl, rfl, rfl, fun cells' h => by simp [hr] at h, fun e' sz' rows' wr' h => ?_⟩
      · have hkb : k ≠ b := fun e => hpr o (e ▸ hp)
        exact cell_setRow_other M.w b _ ⟨k, o, none⟩ hkb
      · have : e = e' ∧ sz = sz' ∧ rows = rows' ∧ true = wr' := by simpa [hr] using h
        obtain ⟨rfl, rfl, rfl, rfl⟩ := this
        refine ⟨_, _, rfl, by simp, fun _ => ⟨hmu.symm, fun b' cur hb' hcur => ?_⟩⟩
        have : b' = b := Option.some.inj (hb'.symm.trans hmu)
        subst this
        refine ⟨_, setRow_heap M.w b' cs _ e (0, 0) h1, ?_⟩
        rw [h1] at hcur
        have : cs = cur := by simpa using hcur
        subst this
        rw [List.size_toArray, splice_length _ _ _ (by simpa using hsz)]
        simp
    have hst := hch.stab hM
    have hb := setRow_heap M.w b cs (splice cs.toList (i * sz + off) vs).toArray e (0, 0) h1
    refine ⟨b, cs, rfl, h1, hsz, hst, hch.ok hM ⟨h0, fun row' hr' => ?_, ?_⟩⟩
    · rcases List.mem_or_eq_of_mem_set hr' with h | h
      · exact hrows row' h
      · rw [h, splice_length _ _ _ hl, hrl]
    · show match (M.put r _ _ _ _).mu r with
        | none => _
        | some b => _
      rw [show (M.put r (.arr e sz (rows.set i (splice row off xs)) true) (some b) M.Pr (M.w.setRow b (splice cs.toList (i * sz + off) vs).toArray)).mu r = some b from upd_same _ _ _]
      refine ⟨_, cap, hb, ?_, by simpa using h3, h4, fun i' row' j x hi' hj => ?_, fun o => ⟨fun hp => absurd hp (hpr o), fun hp => by simp at hp⟩⟩
      · rw [List.size_toArray, splice_length _ _ _ (by simpa using hsz)]; simpa using h2
      · apply hst.repC
        rw [getD_toArray, splice_get _ _ _ (by simpa using hsz)]
        by_cases hii : i' = i
        · subst hii
          have hrow' : row' = splice row off xs := by simpa [hin] using hi'.symm
          subst hrow'
          rw [splice_get _ _ _ hl] at hj
          by_cases hc : off ≤ j ∧ j < off + xs.length
          · rw [if_pos hc] at hj
            rw [if_pos (by omega)]
            have hidx : i' * sz + j - (i' * sz + off) = j - off := by omega
            have hv : vs[j - off]? = some (vs[j - off]'(by omega)) := List.getElem?_eq_getElem (by omega)
            rw [hidx, hv]
            exact hrep _ _ _ hj hv
          · rw [if_neg hc] at hj
            rw [if_neg (by omega)]
            have := h5 i' row j x hi hj
            simpa [Array.getD_eq_getD_getElem?] using this
        · have hi0 : rows[i']? = some row' := by rwa [List.getElem?_set_ne (Ne.symm hii)] at hi'
          have hjl : j < sz := by have := (List.getElem?_eq_some_iff.1 hj).1; rw [hrows row' (List.mem_of_getElem? hi0)] at this; exact this
          have hne : ¬ (i * sz + off ≤ i' * sz + j ∧ i' * sz + j < i * sz + off + vs.length) := by
            intro hc
            have := row_inj (i := i') (i' := i) (j := j) (j' := i' * sz + j - i * sz) hjl (by omega) (by omega)
            exact hii this.1
          rw [if_neg hne]
          have := h5 i' row' j x hi0 hj
          simpa [Array.getD_eq_getD_getElem?] using this

end Go.Sim
