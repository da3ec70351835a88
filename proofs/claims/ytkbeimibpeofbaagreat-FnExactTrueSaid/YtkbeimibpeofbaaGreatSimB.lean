/- How memory may change under the relation: a new object, an object written, grown, protected, let go. -/
import Derived.Test.YtkbeimibpeofbaaGreatSimA
namespace Go.Sim

def upd {α β : Type} [DecidableEq α] (f : α → β) (a : α) (b : β) : α → β := fun x => if x = a then b else f x
theorem upd_same {α β : Type} [DecidableEq α] (f : α → β) (a : α) (b : β) : upd f a b a = b := by simp [upd]
theorem upd_ne {α β : Type} [DecidableEq α] (f : α → β) {a x : α} (b : β) (h : x ≠ a) : upd f a b x = f x := by simp [upd, h]

theorem MemOk.block_lt {C : Ctx} {M : Mem} (hM : MemOk C M) {r : Ref} {o : Ob} {b : Nat} (ho : M.obs r = some o) (hb : M.mu r = some b) : b < M.w.heap.size := by
  have h := hM.obj r o ho
  cases o with
  | box cells =>
    obtain ⟨b', cs, T, h1, h2, _⟩ := h
    have : b' = b := by rw [hb] at h1; exact (Option.some.inj h1).symm
    subst this
    exact (Array.getElem?_eq_some_iff.1 h2).1
  | arr e sz rows wr =>
    obtain ⟨_, _, h3⟩ := h
    rw [hb] at h3
    obtain ⟨cs, cap, h2, _⟩ := h3
    exact (Array.getElem?_eq_some_iff.1 h2).1

theorem cell_heap {w w' : World} {b : Nat} (h : w'.heap[b]? = w.heap[b]?) (o : Nat) : w'.cell? ⟨b, o, none⟩ = w.cell? ⟨b, o, none⟩ :=
  World.cell?_of_block (a := ⟨b, o, none⟩) h

theorem MemOk.prot_lt {C : Ctx} {M : Mem} (hM : MemOk C M) {b o : Nat} (h : M.Pr b o) : b < M.w.heap.size := by
  obtain ⟨v, hv⟩ := hM.prot b o h
  exact World.block_lt_of_cell? M.w _ hv

/-- Object r is new, or written: all else stands. -/
structure Change (M : Mem) (r : Ref) (o' : Ob) (m' : Option Nat) (Pr' : Prot) (w' : World) : Prop where
  size : M.w.heap.size ≤ w'.heap.size
  blk : ∀ b, b < M.w.heap.size → (M.obs r ≠ none → M.mu r ≠ some b) → w'.heap[b]? = M.w.heap[b]?
  old : ∀ b o, M.Pr b o → Pr' b o ∧ w'.cell? ⟨b, o, none⟩ = M.w.cell? ⟨b, o, none⟩
  fresh : ∀ b o, Pr' b o → ¬ M.Pr b o → m' = some b ∧ ∃ v, w'.cell? ⟨b, o, none⟩ = some v
  mu : ∀ b, m' = some b → (M.obs r ≠ none ∧ M.mu r = some b) ∨ M.w.heap.size ≤ b
  os : w'.os = M.w.os
  tape : w'.tape = M.w.tape
  output : w'.output = M.w.output
  box : ∀ cells, M.obs r = some (.box cells) → ∃ cells', o' = .box cells' ∧ cells'.length = cells.length ∧ m' = M.mu r
  arr : ∀ e sz rows wr, M.obs r = some (.arr e sz rows wr) → ∃ rows' wr', o' = .arr e sz rows' wr' ∧ rows.length ≤ rows'.length ∧
    (rows'.length = rows.length → m' = M.mu r ∧ ∀ b cur, M.mu r = some b → M.w.heap[b]? = some (.cells cur e (0, 0)) →
      ∃ cur', w'.heap[b]? = some (.cells cur' e (0, 0)) ∧ cur'.size = cur.size)

def Mem.put (M : Mem) (r : Ref) (o' : Ob) (m' : Option Nat) (Pr' : Prot) (w' : World) : Mem := ⟨upd M.obs r (some o'), upd M.mu r m', Pr', w'⟩

theorem Change.other {C : Ctx} {M : Mem} (hM : MemOk C M) {r : Ref} {o' : Ob} {m' : Option Nat} {Pr' : Prot} {w' : World} (h : Change M r o' m' Pr' w')
    {q : Ref} {o : Ob} {b : Nat} (hq : M.obs q = some o) (hne : q ≠ r) (hb : M.mu q = some b) : w'.heap[b]? = M.w.heap[b]? ∧ m' ≠ some b := by
  have hlt := hM.block_lt hq hb
  have hn : M.obs r ≠ none → M.mu r ≠ some b := fun hr hm => hne (hM.inj q r b (by simp [hq]) hr hb hm)
  refine ⟨h.blk b hlt hn, fun hm => ?_⟩
  rcases h.mu b hm with ⟨hr, hr2⟩ | hge
  · exact hn hr hr2
  · omega

theorem Change.stab {C : Ctx} {M : Mem} (hM : MemOk C M) {r : Ref} {o' : Ob} {m' : Option Nat} {Pr' : Prot} {w' : World} (h : Change M r o' m' Pr' w') :
    Stab M (M.put r o' m' Pr' w') := by
  refine ⟨h.old, fun q cells hq => ?_, fun q e sz rows wr hq => ?_⟩
  · by_cases hne : q = r
    · subst hne
      obtain ⟨cells', ho, hl, hm⟩ := h.box cells hq
      exact ⟨cells', by simp [Mem.put, upd, ho], hl, by simp [Mem.put, upd, hm]⟩
    · exact ⟨cells, by simp [Mem.put, upd, hne, hq], rfl, by simp [Mem.put, upd, hne]⟩
  · by_cases hne : q = r
    · subst hne
      obtain ⟨rows', wr', ho, hl, hm⟩ := h.arr e sz rows wr hq
      refine ⟨rows', wr', by simp [Mem.put, upd, ho], hl, fun he => ?_⟩
      obtain ⟨h1, h2⟩ := hm he
      exact ⟨by simp [Mem.put, upd, h1], h2⟩
    · refine ⟨rows, wr, by simp [Mem.put, upd, hne, hq], Nat.le_refl _, fun _ => ⟨by simp [Mem.put, upd, hne], fun b cur hb hc => ⟨cur, ?_, rfl⟩⟩⟩
      exact (h.other hM hq hne hb).1.trans hc

theorem Change.ok {C : Ctx} {M : Mem} (hM : MemOk C M) {r : Ref} {o' : Ob} {m' : Option Nat} {Pr' : Prot} {w' : World} (h : Change M r o' m' Pr' w')
    (ho' : RepO (M.put r o' m' Pr' w') r o') : MemOk C (M.put r o' m' Pr' w') := by
  have hst := h.stab hM
  refine ⟨fun q o hq => ?_, fun q q' b hq hq' hb hb' => ?_, fun q b hq hb => ?_, hM.new, fun b hb => ?_, Nat.le_trans hM.le h.size, h.os.trans hM.os, h.tape.trans hM.tape,
    h.output.trans hM.output, fun b o hp => ?_, hM.st.trans hst, fun b o hp => ?_⟩
  · by_cases hne : q = r
    · subst hne
      have : o' = o := by simpa [Mem.put, upd] using hq
      subst this
      exact ho'
    · have hq0 : M.obs q = some o := by simpa [Mem.put, upd, hne] using hq
      refine hst.repO (by simp [Mem.put, upd, hne]) (fun b hb => (h.other hM hq0 hne hb).1) (fun b p hb => ⟨fun hp => ?_, fun hp => (h.old b p hp).1⟩) (hM.obj q o hq0)
      by_cases hold : M.Pr b p
      · exact hold
      · exact absurd (h.fresh b p hp hold).1 (h.other hM hq0 hne hb).2
  · have key : ∀ q, q ≠ r → (M.put r o' m' Pr' w').obs q ≠ none → (M.put r o' m' Pr' w').mu q = some b → m' ≠ some b := by
      intro q hne hq hb
      have hq0 : M.obs q ≠ none := by simpa [Mem.put, upd, hne] using hq
      obtain ⟨o, ho⟩ := Option.ne_none_iff_exists'.1 hq0
      exact (h.other hM ho hne (by simpa [Mem.put, upd, hne] using hb)).2
    by_cases h1 : q = r
    · by_cases h2 : q' = r
      · rw [h1, h2]
      · exact absurd (by simpa [Mem.put, upd, h1] using hb) (key q' h2 hq' hb')
    · by_cases h2 : q' = r
      · exact absurd (by simpa [Mem.put, upd, h2] using hb') (key q h1 hq hb)
      · exact hM.inj q q' b (by simpa [Mem.put, upd, h1] using hq) (by simpa [Mem.put, upd, h2] using hq') (by simpa [Mem.put, upd, h1] using hb) (by simpa [Mem.put, upd, h2] using hb')
  · by_cases hne : q = r
    · subst hne
      have hm : m' = some b := by simpa [Mem.put, upd] using hb
      rcases h.mu b hm with ⟨hr, hr2⟩ | hge
      · exact hM.own q b hr hr2
      · exact hM.new b (Nat.le_trans hM.le hge)
    · exact hM.own q b (by simpa [Mem.put, upd, hne] using hq) (by simpa [Mem.put, upd, hne] using hb)
  · have hlt : b < C.M0.w.heap.size := Nat.lt_of_not_le fun hge => hb (hM.new b hge)
    exact (h.blk b (Nat.lt_of_lt_of_le hlt hM.le) (fun hr hm => hb (hM.own r b hr hm))).trans (hM.frame b hb)
  · by_cases hold : M.Pr b o
    · obtain ⟨v, hv⟩ := hM.prot b o hold
      exact ⟨v, (h.old b o hold).2.trans hv⟩
    · exact (h.fresh b o hp hold).2
  · by_cases hold : M.Pr b o
    · exact hM.fresh b o hold
    · rcases h.mu b (h.fresh b o hp hold).1 with ⟨hr, hr2⟩ | hge
      · exact .inr (hM.own r b hr hr2)
      · exact .inr (hM.new b (Nat.le_trans hM.le hge))

/-- The heap is as it was (a draw). -/
theorem MemOk.same {C : Ctx} {M : Mem} (hM : MemOk C M) {w' : World} (hh : w'.heap = M.w.heap) (ho : w'.os = M.w.os) (ht : w'.tape = M.w.tape) (hp : w'.output = M.w.output) :
    Stab M ⟨M.obs, M.mu, M.Pr, w'⟩ ∧ MemOk C ⟨M.obs, M.mu, M.Pr, w'⟩ := by
  have hc : ∀ b o, w'.cell? ⟨b, o, none⟩ = M.w.cell? ⟨b, o, none⟩ := fun b o => cell_heap (by rw [hh]) o
  have hst : Stab M ⟨M.obs, M.mu, M.Pr, w'⟩ :=
    ⟨fun b o hp => ⟨hp, hc b o⟩, fun q cells hq => ⟨cells, hq, rfl, rfl⟩,
      fun q e sz rows wr hq => ⟨rows, wr, hq, Nat.le_refl _, fun _ => ⟨rfl, fun b cur _ hb => ⟨cur, by rw [show (Mem.mk M.obs M.mu M.Pr w').w.heap = M.w.heap from hh]; exact hb, rfl⟩⟩⟩⟩
  refine ⟨hst, ⟨fun q o hq => hst.repO rfl (fun b _ => by rw [show (Mem.mk M.obs M.mu M.Pr w').w.heap = M.w.heap from hh]) (fun _ _ _ => Iff.rfl) (hM.obj q o hq), hM.inj, hM.own, hM.new,
    fun b hb => (by rw [show (Mem.mk M.obs M.mu M.Pr w').w.heap = M.w.heap from hh]; exact hM.frame b hb), by rw [show (Mem.mk M.obs M.mu M.Pr w').w.heap = M.w.heap from hh]; exact hM.le,
    ho.trans hM.os, ht.trans hM.tape, hp.trans hM.output, fun b o h => ?_, hM.st.trans hst, hM.fresh⟩⟩
  obtain ⟨v, hv⟩ := hM.prot b o h
  exact ⟨v, (hc b o).trans hv⟩

/-! ### A new object -/
theorem Change.alloc {M : Mem} {r : Ref} (hr : M.obs r = none) (o' : Ob) (cs : Array Value) (T : TypeId) (Pr' : Prot)
    (hlt : ∀ b o, M.Pr b o → b < M.w.heap.size)
    (hold : ∀ b o, M.Pr b o → Pr' b o) (hnew : ∀ b o, Pr' b o → ¬ M.Pr b o → b = M.w.heap.size ∧ o < cs.size) :
    Change M r o' (some M.w.heap.size) Pr' (M.w.alloc (.cells cs T)) := by
  refine ⟨by simp, fun b hb _ => heap_alloc_old M.w _ b hb, fun b o hp => ⟨hold b o hp, World.cell?_alloc_lt M.w _ ⟨b, o, none⟩ (hlt b o hp)⟩, fun b o h1 h2 => ?_,
    fun b hb => .inr (by simpa using Nat.le_of_eq (Option.some.inj hb)), rfl, rfl, rfl, fun cells h => by simp [hr] at h, fun e sz rows wr h => by simp [hr] at h⟩
  obtain ⟨rfl, ho⟩ := hnew b o h1 h2
  exact ⟨rfl, cs[o], by rw [World.cell?_alloc_new]; simp [ho]⟩

theorem alloc_box {C : Ctx} {M : Mem} (hM : MemOk C M) {r : Ref} (hr : M.obs r = none) (cells : List AV) (cs : Array Value) (T : TypeId) (hsz : cs.size = cells.length)
    (hc : ∀ j x, cells[j]? = some x → RepS M x (cs.getD j undef)) :
    let M' := M.put r (.box cells) (some M.w.heap.size) M.Pr (M.w.alloc (.cells cs T))
    Stab M M' ∧ MemOk C M' ∧ RepS M' (.ptr r 0) (.pointer (some ⟨M.w.heap.size, 0, none⟩)) := by
  intro M'
  have hch : Change M r (.box cells) (some M.w.heap.size) M.Pr (M.w.alloc (.cells cs T)) :=
    .alloc hr _ cs T _ (fun b o h => hM.prot_lt h) (fun _ _ h => h) (fun b o h hn => absurd h hn)
  have hst := hch.stab hM
  have hb : M'.w.heap[M.w.heap.size]? = some (.cells cs T (0, 0)) := heap_alloc_new M.w _
  have hmu : M'.mu r = some M.w.heap.size := upd_same _ _ _
  refine ⟨hst, hch.ok hM ⟨M.w.heap.size, cs, T, hmu, hb, hsz, fun j x hj => hst.repS (hc j x hj), fun o hp => absurd (hM.prot_lt hp) (by omega)⟩, ?_⟩
  exact ⟨cells, M.w.heap.size, upd_same _ _ _, by omega, hmu, rfl⟩

theorem alloc_arr {C : Ctx} {M : Mem} (hM : MemOk C M) {r : Ref} (hr : M.obs r = none) (e sz : Nat) (rows : List (List AV)) (wr : Bool) (cs : Array Value) (cap : Nat) (h0 : 0 < sz)
    (hrows : ∀ row ∈ rows, row.length = sz) (hsz : cs.size = cap * sz) (hn : rows.length ≤ cap) (hcap : cap ≤ maxLen)
    (hc : ∀ (i : Nat) (row : List AV) (j : Nat) (x : AV), rows[i]? = some row → row[j]? = some x → RepC M.Pr M.w x (cs.getD (i * sz + j) undef)) :
    let M' := M.put r (.arr e sz rows wr) (some M.w.heap.size) (fun b o => M.Pr b o ∨ (b = M.w.heap.size ∧ wr = false ∧ o < rows.length * sz)) (M.w.alloc (.cells cs e))
    Stab M M' ∧ MemOk C M' ∧ RepS M' (.own r rows.length) (.slice (some ⟨M.w.heap.size, 0, none⟩) rows.length cap) := by
  intro M'
  have hle : rows.length * sz ≤ cs.size := by rw [hsz]; exact Nat.mul_le_mul_right _ hn
  have hch : Change M r (.arr e sz rows wr) (some M.w.heap.size) (fun b o => M.Pr b o ∨ (b = M.w.heap.size ∧ wr = false ∧ o < rows.length * sz)) (M.w.alloc (.cells cs e)) :=
    .alloc hr _ cs e _ (fun b o h => hM.prot_lt h) (fun _ _ h => .inl h) (fun b o h hn => by
      rcases h with h | ⟨h1, _, h3⟩
      · exact absurd h hn
      · exact ⟨h1, by omega⟩)
  have hst := hch.stab hM
  have hb : M'.w.heap[M.w.heap.size]? = some (.cells cs e (0, 0)) := heap_alloc_new M.w _
  have hmu : M'.mu r = some M.w.heap.size := upd_same _ _ _
  have hcell : (M'.w).heap[M.w.heap.size]? = some (.cells cs e (0, 0)) := hb
  refine ⟨hst, hch.ok hM ⟨h0, hrows, ?_⟩, ⟨_, _, _, rfl⟩, e, sz, rows, wr, upd_same _ _ _, Nat.le_refl _, fun _ => ?_⟩
  · show match M'.mu r with
      | none => rows = []
      | some b => _
    rw [hmu]
    refine ⟨cs, cap, hb, hsz, hn, hcap, fun i row j x hi hj => hst.repC (hc i row j x hi hj), fun o => ⟨fun hp => ?_, fun hp => .inr ⟨rfl, hp⟩⟩⟩
    rcases hp with hp | ⟨_, hp⟩
    · exact absurd (hM.prot_lt hp) (by omega)
    · exact hp
  · show OwnV M'.w e sz rows.length (M'.mu r) _
    rw [hmu]
    exact ⟨cap, cs, hb, hsz, hn, hcap, rfl⟩

end Go.Sim
