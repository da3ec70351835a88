/- An array object grown by append. -/
import Derived.Test.YtkbeimibpeofbaaGreatSimC
namespace Go.Sim

/-- The cells of some rows, one behind the other. -/
def Flat (Pr : Prot) (w : World) (sz : Nat) (rows : List (List AV)) (news : List Value) : Prop :=
  news.length = rows.length * sz ∧ (∀ row ∈ rows, row.length = sz) ∧
  ∀ (i : Nat) (row : List AV) (j : Nat) (x : AV), rows[i]? = some row → row[j]? = some x → ∃ u, news[i * sz + j]? = some u ∧ RepC Pr w x u

theorem Flat.one {Pr : Prot} {w : World} {sz : Nat} {rows : List (List AV)} {news : List Value} (h : Flat Pr w sz rows news) : ∀ u ∈ news, u.oneCell' = true := by
  intro u hu
  obtain ⟨k, hk⟩ := List.getElem?_of_mem hu
  obtain ⟨hl, hr, hc⟩ := h
  have hlt : k < rows.length * sz := by rw [← hl]; exact (List.getElem?_eq_some_iff.1 hk).1
  have h0 : 0 < sz := by
    rcases Nat.eq_zero_or_pos sz with h0 | h0
    · subst h0; simp at hlt
    · exact h0
  have hi : k / sz < rows.length := Nat.div_lt_of_lt_mul (by rw [Nat.mul_comm]; exact hlt)
  have hj : k % sz < sz := Nat.mod_lt _ h0
  have hrow := hr rows[k / sz] (List.getElem_mem hi)
  obtain ⟨u', h1, h2⟩ := hc (k / sz) rows[k / sz] (k % sz) (rows[k / sz][k % sz]'(by omega)) (List.getElem?_eq_getElem hi) (List.getElem?_eq_getElem _)
  have hidx : k / sz * sz + k % sz = k := by rw [Nat.mul_comm]; exact Nat.div_add_mod k sz
  rw [hidx, hk] at h1
  have := Option.some.inj h1
  subst this
  exact h2.one

theorem flat_of {Pr : Prot} {w : World} {sz : Nat} {rows : List (List AV)} (cs : Array Value) (cap : Nat) (hsz : cs.size = cap * sz) (hn : rows.length ≤ cap) (hr : ∀ row ∈ rows, row.length = sz)
    (hc : ∀ (i : Nat) (row : List AV) (j : Nat) (x : AV), rows[i]? = some row → row[j]? = some x → RepC Pr w x (cs.getD (i * sz + j) undef)) :
    Flat Pr w sz rows (cs.toList.take (rows.length * sz)) := by
  have hle : rows.length * sz ≤ cs.size := by rw [hsz]; exact Nat.mul_le_mul_right _ hn
  refine ⟨by simp; omega, hr, fun i row j x hi hj => ?_⟩
  have hin : i < rows.length := (List.getElem?_eq_some_iff.1 hi).1
  have hjl : j < sz := by have := (List.getElem?_eq_some_iff.1 hj).1; rw [hr row (List.mem_of_getElem? hi)] at this; exact this
  have hlt := mul_lt_mul_row hin hjl
  refine ⟨cs.getD (i * sz + j) undef, ?_, hc i row j x hi hj⟩
  rw [List.getElem?_take_of_lt hlt]
  simpa using arr_getD (cs := cs) (by omega)

theorem Flat.append {Pr : Prot} {w : World} {sz : Nat} {rows xs : List (List AV)} {a b : List Value} (h : Flat Pr w sz rows a) (k : Flat Pr w sz xs b) : Flat Pr w sz (rows ++ xs) (a ++ b) := by
  refine ⟨by simp [h.1, k.1, Nat.add_mul], fun row hr => ?_, fun i row j x hi hj => ?_⟩
  · rcases List.mem_append.1 hr with hr | hr
    · exact h.2.1 row hr
    · exact k.2.1 row hr
  · by_cases hlt : i < rows.length
    · rw [List.getElem?_append_left hlt] at hi
      obtain ⟨u, hu, hrep⟩ := h.2.2 i row j x hi hj
      exact ⟨u, by rw [List.getElem?_append_left (List.getElem?_eq_some_iff.1 hu).1]; exact hu, hrep⟩
    · rw [List.getElem?_append_right (by omega)] at hi
      obtain ⟨u, hu, hrep⟩ := k.2.2 _ row j x hi hj
      have he : i * sz + j = a.length + ((i - rows.length) * sz + j) := by
        rw [h.1, ← Nat.add_assoc, ← Nat.add_mul]
        congr 2
        omega
      refine ⟨u, ?_, hrep⟩
      rw [he, List.getElem?_append_right (by omega)]
      simpa using hu

theorem Flat.getD {Pr : Prot} {w : World} {sz : Nat} {rows : List (List AV)} {news rest : List Value} (h : Flat Pr w sz rows news) (i : Nat) (row : List AV) (j : Nat) (x : AV)
    (hi : rows[i]? = some row) (hj : row[j]? = some x) : RepC Pr w x ((news ++ rest).toArray.getD (i * sz + j) undef) := by
  obtain ⟨u, hu, hr⟩ := h.2.2 i row j x hi hj
  rw [getD_toArray, List.getElem?_append_left (List.getElem?_eq_some_iff.1 hu).1, hu]
  exact hr

theorem run_append_zero {P : Program} (w : World) (t ty e : TypeId) (i : TypeInfo) (ht : P.underlying t = some (.slice e)) (hi : P.info? e = some i)
    (A : Option Addr) (n c : Nat) (hn : n ≤ c) (B : Option Addr) (d : Nat) :
    (Builtin.append_ #[t, t] ty #[.slice A n c, .slice B 0 d]).run P w = .ok (.slice A n c) w := by
  cases B <;> cases A <;> simp [Builtin.append_, run_underlying ht, sizeOf, typeInfo, hi, Builtin.lenOf, Builtin.firstCells, loadCells, loadCellsFrom, hn, storeCells]

/-- The slice that is appended to: nil and no object, or the object r as it stands. -/
def Base (M : Mem) (r : Ref) (e sz : Nat) (rows : List (List AV)) (wr : Bool) (v : Value) : Prop :=
  (M.obs r = none ∧ rows = [] ∧ v = .slice none 0 0) ∨ (M.obs r = some (.arr e sz rows wr) ∧ OwnV M.w e sz rows.length (M.mu r) v)

theorem Change.grow {M : Mem} {C : Ctx} (hM : MemOk C M) {r : Ref} {e sz : Nat} {rows xs : List (List AV)} {wr : Bool} {v : Value} (hB : Base M r e sz rows wr v) (hx : 0 < xs.length) (cs : Array Value)
    (hsz : (rows.length + xs.length) * sz ≤ cs.size) :
    Change M r (.arr e sz (rows ++ xs) wr) (some M.w.heap.size) (fun b o => M.Pr b o ∨ (b = M.w.heap.size ∧ wr = false ∧ o < (rows.length + xs.length) * sz)) (M.w.drew.alloc (.cells cs e)) := by
  refine ⟨by simp, fun b hb _ => heap_alloc_old M.w.drew _ b hb, fun b o hp => ⟨.inl hp, ?_⟩, fun b o h1 h2 => ?_, fun b hb => .inr (by simpa using Nat.le_of_eq (Option.some.inj hb)), rfl, rfl, rfl,
    fun cells h => ?_, fun e' sz' rows' wr' h => ?_⟩
  · rw [World.cell?_alloc_lt M.w.drew _ ⟨b, o, none⟩ (hM.prot_lt hp)]
    exact World.cell?_drew M.w _
  · rcases h1 with h1 | ⟨rfl, _, h3⟩
    · exact absurd h1 h2
    · exact ⟨rfl, cs.getD o undef, by rw [show M.w.heap.size = M.w.drew.heap.size from rfl, World.cell?_alloc_new]; exact arr_getD (by omega)⟩
  · rcases hB with ⟨hB, _⟩ | ⟨hB, _⟩ <;> simp [hB] at h
  · rcases hB with ⟨hB, _⟩ | ⟨hB, _⟩
    · simp [hB] at h
    · have : e = e' ∧ sz = sz' ∧ rows = rows' ∧ wr = wr' := by simpa [hB] using h
      obtain ⟨rfl, rfl, rfl, rfl⟩ := this
      exact ⟨_, _, rfl, by simp, fun hl => by simp at hl; simp [hl] at hx⟩

theorem append_arr {P : Program} {C : Ctx} {M : Mem} (hM : MemOk C M) (t ty e : TypeId) (i : TypeInfo) (z : Value) (ht : P.underlying t = some (.slice e)) (hi : P.info? e = some i) (hz : i.zero = some z)
    {sz : Nat} (hsize : i.size = sz) (hzs : z.cells.size = sz) (h0 : 0 < sz) {r : Ref} {rows : List (List AV)} {wr : Bool} {v : Value} (hB : Base M r e sz rows wr v)
    (xs : List (List AV)) (news : List Value) (hF : Flat M.Pr M.w sz xs news) (A : Option Addr) (c : Nat)
    (hA : ∀ j u, news[j]? = some u → ∃ ad, A = some ad ∧ M.w.cell? (ad.add j) = some u)
    (hbytes : (rows.length + xs.length) * i.bytes ≤ 140737488355328) (h63 : rows.length + xs.length ≤ 9223372036854775807) :
    ∃ v' m' Pr' w', (Builtin.append_ #[t, t] ty #[v, .slice A xs.length c]).run P M.w = .ok v' w' ∧
      Stab M (M.put r (.arr e sz (rows ++ xs) wr) m' Pr' w') ∧ MemOk C (M.put r (.arr e sz (rows ++ xs) wr) m' Pr' w') ∧
      RepS (M.put r (.arr e sz (rows ++ xs) wr) m' Pr' w') (.own r (rows ++ xs).length) v' := by
  subst hsize
  have hml : rows.length + xs.length ≤ maxLen := by simp only [maxLen]; omega
  have hrows : ∀ row ∈ rows, row.length = i.size := by
    rcases hB with ⟨_, rfl, _⟩ | ⟨hB, _⟩
    · simp
    · exact (hM.obj r _ hB).2.1
  -- a new block
  have fresh : 0 < xs.length → ∀ (olds : List Value) (cap : Nat), Flat M.Pr M.w i.size rows olds → rows.length + xs.length ≤ cap → cap ≤ maxLen →
      Stab M (M.put r (.arr e i.size (rows ++ xs) wr) (some M.w.heap.size) (fun b o => M.Pr b o ∨ (b = M.w.heap.size ∧ wr = false ∧ o < (rows.length + xs.length) * i.size))
        (M.w.drew.alloc (.cells (olds.toArray ++ news.toArray ++ Builtin.zeroCells z.cells (cap - (rows.length + xs.length))) e))) ∧
      MemOk C (M.put r (.arr e i.size (rows ++ xs) wr) (some M.w.heap.size) (fun b o => M.Pr b o ∨ (b = M.w.heap.size ∧ wr = false ∧ o < (rows.length + xs.length) * i.size))
        (M.w.drew.alloc (.cells (olds.toArray ++ news.toArray ++ Builtin.zeroCells z.cells (cap - (rows.length + xs.length))) e))) ∧
      RepS (M.put r (.arr e i.size (rows ++ xs) wr) (some M.w.heap.size) (fun b o => M.Pr b o ∨ (b = M.w.heap.size ∧ wr = false ∧ o < (rows.length + xs.length) * i.size))
        (M.w.drew.alloc (.cells (olds.toArray ++ news.toArray ++ Builtin.zeroCells z.cells (cap - (rows.length + xs.length))) e))) (.own r (rows ++ xs).length)
        (.slice (some ⟨M.w.heap.size, 0, none⟩) (rows.length + xs.length) cap) := by
    intro hx olds cap hO hcap hcm
    generalize hcs : olds.toArray ++ news.toArray ++ Builtin.zeroCells z.cells (cap - (rows.length + xs.length)) = cs
    have hcsz : cs.size = cap * i.size := by
      rw [← hcs]
      simp only [Array.size_append, List.size_toArray, size_zeroCells, hzs, hO.1, hF.1, ← Nat.add_mul]
      congr 1
      omega
    have hch := Change.grow hM hB hx cs (by rw [hcsz]; exact Nat.mul_le_mul_right _ hcap)
    have hst := hch.stab hM
    have hmu : (M.put r (.arr e i.size (rows ++ xs) wr) (some M.w.heap.size) (fun b o => M.Pr b o ∨ (b = M.w.heap.size ∧ wr = false ∧ o < (rows.length + xs.length) * i.size))
        (M.w.drew.alloc (.cells cs e))).mu r = some M.w.heap.size := upd_same _ _ _
    have hb : (M.w.drew.alloc (.cells cs e)).heap[M.w.heap.size]? = some (.cells cs e (0, 0)) := heap_alloc_new M.w.drew _
    refine ⟨hst, hch.ok hM ⟨h0, fun row hr => (hO.append hF).2.1 row hr, ?_⟩, ⟨_, _, _, rfl⟩, e, i.size, rows ++ xs, wr, upd_same _ _ _, Nat.le_refl _, fun _ => ?_⟩
    · rw [hmu]
      refine ⟨cs, cap, hb, hcsz, by simpa using hcap, hcm, fun k row j x hk hj => hst.repC ?_, fun o => ⟨fun hp => ?_, fun hp => .inr ⟨rfl, hp.1, by simpa using hp.2⟩⟩⟩
      · have := (hO.append hF).getD (rest := (Builtin.zeroCells z.cells (cap - (rows.length + xs.length))).toList) k row j x hk hj
        rw [← hcs, show olds.toArray ++ news.toArray ++ Builtin.zeroCells z.cells (cap - (rows.length + xs.length)) =
          (olds ++ news ++ (Builtin.zeroCells z.cells (cap - (rows.length + xs.length))).toList).toArray from by apply Array.ext'; simp]
        exact this
      · rcases hp with hp | ⟨_, hp1, hp2⟩
        · exact absurd (hM.prot_lt hp) (by omega)
        · exact ⟨hp1, by simpa using hp2⟩
    · rw [hmu]
      exact ⟨cap, cs, hb, hcsz, by simpa using hcap, hcm, by simp⟩
  by_cases hx : xs.length = 0
  · -- nothing appended
    have hxn : xs = [] := List.eq_nil_of_length_eq_zero hx
    subst hxn
    rcases hB with ⟨hB, rfl, rfl⟩ | ⟨hB, hv⟩
    · have hch : Change M r (.arr e i.size ([] ++ []) wr) none M.Pr M.w :=
        ⟨Nat.le_refl _, fun _ _ _ => rfl, fun b o hp => ⟨hp, rfl⟩, fun b o h hn => absurd h hn, fun b hb => by simp at hb, rfl, rfl, rfl, fun cells h => by simp [hB] at h, fun _ _ _ _ h => by simp [hB] at h⟩
      refine ⟨_, none, M.Pr, M.w, run_append_zero M.w t ty e i ht hi none 0 0 (Nat.le_refl _) A c, hch.stab hM, hch.ok hM ⟨h0, by simp, ?_⟩, ⟨_, _, _, rfl⟩, e, i.size, [], wr, upd_same _ _ _, Nat.le_refl _, fun _ => ?_⟩
      · rw [show (M.put r (.arr e i.size ([] ++ []) wr) none M.Pr M.w).mu r = none from upd_same _ _ _]; rfl
      · rw [show (M.put r (.arr e i.size ([] ++ []) wr) none M.Pr M.w).mu r = none from upd_same _ _ _]; exact ⟨rfl, rfl⟩
    · have he : M.put r (.arr e i.size (rows ++ []) wr) (M.mu r) M.Pr M.w = M := by
        cases M with
        | mk obs mu Pr w =>
          simp only [Mem.put, List.append_nil, Mem.mk.injEq]
          refine ⟨?_, ?_, trivial, trivial⟩
          · funext q; by_cases hq : q = r
            · subst hq; simp [upd]; exact hB.symm
            · simp [upd, hq]
          · funext q; by_cases hq : q = r
            · subst hq; simp [upd]
            · simp [upd, hq]
      have hs : ∃ A' c', v = .slice A' rows.length c' ∧ rows.length ≤ c' := by
        unfold OwnV at hv
        cases hm : M.mu r with
        | none => rw [hm] at hv; exact ⟨none, 0, by rw [hv.2, hv.1], by omega⟩
        | some b => rw [hm] at hv; obtain ⟨cap, cur, _, _, h3, _, h5⟩ := hv; exact ⟨_, cap, h5, h3⟩
      obtain ⟨A', c', rfl, hc⟩ := hs
      refine ⟨_, M.mu r, M.Pr, M.w, run_append_zero M.w t ty e i ht hi A' rows.length c' hc A c, ?_⟩
      rw [he]
      refine ⟨⟨fun b o h => ⟨h, rfl⟩, fun q cells hq => ⟨cells, hq, rfl, rfl⟩, fun q e sz rows wr hq => ⟨rows, wr, hq, Nat.le_refl _, fun _ => ⟨rfl, fun b cur _ h => ⟨cur, h, rfl⟩⟩⟩⟩, hM, ⟨_, _, _, rfl⟩,
        e, i.size, rows, wr, hB, by simp, fun _ => by simpa using hv⟩
  · have hx0 : 0 < xs.length := by omega
    have hn0 : 0 < news.length := by rw [hF.1]; exact Nat.mul_pos hx0 h0
    obtain ⟨ad, rfl, _⟩ := hA 0 news[0] (List.getElem?_eq_getElem hn0)
    have hA' : ∀ j u, news[j]? = some u → M.w.cell? (ad.add j) = some u := fun j u hu => by
      obtain ⟨ad', e', h⟩ := hA j u hu
      have := Option.some.inj e'
      subst this
      exact h
    have hnil : v = .slice none 0 0 → rows = [] → ∃ v' m' Pr' w', (Builtin.append_ #[t, t] ty #[v, .slice (some ad) xs.length c]).run P M.w = .ok v' w' ∧
      Stab M (M.put r (.arr e i.size (rows ++ xs) wr) m' Pr' w') ∧ MemOk C (M.put r (.arr e i.size (rows ++ xs) wr) m' Pr' w') ∧
      RepS (M.put r (.arr e i.size (rows ++ xs) wr) m' Pr' w') (.own r (rows ++ xs).length) v' := by
      rintro rfl rfl
      have hrun := run_append_nil (P := P) M.w t ty e i z ht hi hz ad xs.length c news hF.1 hA' hx0 (by simp at h63; omega) (by simp at hbytes; omega)
      have hge := grownCap_ge M.w xs.length 0 e
      have hle := grownCap_le_maxLen M.w xs.length 0 e (by simpa using hml)
      have hf := fresh hx0 [] (grownCap M.w xs.length 0 e) ⟨by simp, by simp, fun i row j x hi => by simp at hi⟩ (by simpa using hge) hle
      simp only [List.length_nil, Nat.zero_add, Array.empty_append] at hf
      exact ⟨_, _, _, _, hrun, hf⟩
    rcases hB with ⟨hBo, hr0, hv⟩ | ⟨hBo, hv⟩
    · exact hnil hv hr0
    · cases hm : M.mu r with
      | none =>
        have hob := (hM.obj r _ hBo).2.2
        rw [hm] at hob hv
        exact hnil hv.2 hob
      | some b =>
        have hob := (hM.obj r _ hBo).2.2
        rw [hm] at hob hv
        obtain ⟨cap, cur, h1, h2, h3, h4, rfl⟩ := hv
        obtain ⟨cs, cap', g1, g2, g3, g4, g5, g6⟩ := hob
        have hcc : cs = cur := by rw [h1] at g1; simpa using g1.symm
        subst hcc
        have hO := flat_of (Pr := M.Pr) (w := M.w) cs cap' g2 g3 hrows g5
        by_cases hroom : rows.length + xs.length ≤ cap
        · -- in place
          have hfit : rows.length * i.size + news.length ≤ cs.size := by rw [hF.1, h2, ← Nat.add_mul]; exact Nat.mul_le_mul_right _ hroom
          have hrun := run_append_room (P := P) M.w t ty e i ht hi b rows.length cap cs h1 ad xs.length c news hF.1 hA' hF.one hroom hfit
          have hch : Change M r (.arr e i.size (rows ++ xs) wr) (some b) (fun k o => M.Pr k o ∨ (k = b ∧ wr = false ∧ o < (rows.length + xs.length) * i.size))
              (M.w.setRow b (cs.toList.take (rows.length * i.size) ++ news ++ cs.toList.drop (rows.length * i.size + news.length)).toArray) := by
            refine ⟨by simp, fun k hk hne => setRow_other M.w b k _ (fun e => hne (by simp [hBo]) (e ▸ hm)), fun k o hp => ⟨.inl hp, ?_⟩, fun k o hp hn => ?_,
              fun k hk => .inl ⟨by simp [hBo], hm.trans hk⟩, rfl, rfl, rfl, fun cells' h => by simp [hBo] at h, fun e' sz' rows' wr' h => ?_⟩
            · by_cases hkb : k = b
              · subst hkb
                have ho := ((g6 o).1 hp).2
                rw [cell_setRow_same M.w k o cs _ e (0, 0) h1, cell_of_row M.w k o cs e (0, 0) h1]
                have hlt : o < (cs.toList.take (rows.length * i.size)).length := by simp; omega
                simp only [List.getElem?_toArray]
                rw [List.append_assoc, List.getElem?_append_left hlt, List.getElem?_take_of_lt ho]
                simp
              · exact cell_setRow_other M.w b _ ⟨k, o, none⟩ hkb
            · rcases hp with hp | ⟨rfl, h8, h9⟩
              · exact absurd hp hn
              · refine ⟨rfl, ?_⟩
                rw [cell_setRow_same M.w k o cs _ e (0, 0) h1]
                have hlt : o < (cs.toList.take (rows.length * i.size) ++ news ++ cs.toList.drop (rows.length * i.size + news.length)).length := by
                  rw [Nat.add_mul] at h9
                  simp [hF.1]
                  omega
                exact ⟨_, by rw [List.getElem?_toArray]; exact List.getElem?_eq_getElem hlt⟩
            · have : e = e' ∧ i.size = sz' ∧ rows = rows' ∧ wr = wr' := by simpa [hBo] using h
              obtain ⟨rfl, rfl, rfl, rfl⟩ := this
              exact ⟨_, _, rfl, by simp, fun hl => by simp at hl; simp [hl] at hx0⟩
          have hst := hch.stab hM
          have hb := setRow_heap M.w b cs (cs.toList.take (rows.length * i.size) ++ news ++ cs.toList.drop (rows.length * i.size + news.length)).toArray e (0, 0) h1
          have hsz' : (cs.toList.take (rows.length * i.size) ++ news ++ cs.toList.drop (rows.length * i.size + news.length)).toArray.size = cap * i.size := by
            simp
            omega
          refine ⟨_, some b, _, _, hrun, hst, hch.ok hM ⟨h0, fun row hr => (hO.append hF).2.1 row hr, ?_⟩, ⟨_, _, _, rfl⟩, e, i.size, rows ++ xs, wr, upd_same _ _ _, Nat.le_refl _, fun _ => ?_⟩
          · rw [show (M.put r (.arr e i.size (rows ++ xs) wr) (some b) (fun k o => M.Pr k o ∨ (k = b ∧ wr = false ∧ o < (rows.length + xs.length) * i.size))
              (M.w.setRow b (cs.toList.take (rows.length * i.size) ++ news ++ cs.toList.drop (rows.length * i.size + news.length)).toArray)).mu r = some b from upd_same _ _ _]
            refine ⟨_, cap, hb, hsz', by simpa using hroom, h4, fun k row j x hk hj => hst.repC ?_, fun o => ⟨fun hp => ?_, fun hp => .inr ⟨rfl, hp.1, by simpa using hp.2⟩⟩⟩
            · exact (hO.append hF).getD k row j x hk hj
            · rcases hp with hp | ⟨_, hp1, hp2⟩
              · have := (g6 o).1 hp
                refine ⟨this.1, ?_⟩
                simp only [List.length_append, Nat.add_mul]
                omega
              · exact ⟨hp1, by simpa using hp2⟩
          · rw [show (M.put r (.arr e i.size (rows ++ xs) wr) (some b) (fun k o => M.Pr k o ∨ (k = b ∧ wr = false ∧ o < (rows.length + xs.length) * i.size))
              (M.w.setRow b (cs.toList.take (rows.length * i.size) ++ news ++ cs.toList.drop (rows.length * i.size + news.length)).toArray)).mu r = some b from upd_same _ _ _]
            exact ⟨cap, _, hb, hsz', by simpa using hroom, h4, by simp⟩
        · -- a new block
          have hold : ∀ j u, (cs.toList.take (rows.length * i.size))[j]? = some u → M.w.cell? ((⟨b, 0, none⟩ : Addr).add j) = some u := by
            intro j u hu
            have hadd : (⟨b, 0, none⟩ : Addr).add j = ⟨b, j, none⟩ := by unfold Addr.add; split <;> simp_all
            rw [hadd, cell_of_row M.w b j cs e (0, 0) h1]
            rw [List.getElem?_take] at hu
            split at hu
            · simpa using hu
            · cases hu
          have hrun := run_append_grow (P := P) M.w t ty e i z ht hi hz ⟨b, 0, none⟩ rows.length cap _ hO.1 hold ad xs.length c news hF.1 hA' (by omega) (by omega) (growslice_fits (by omega) hbytes)
          have hge := grownCap_ge M.w (rows.length + xs.length) cap e
          have hle := grownCap_le_maxLen M.w (rows.length + xs.length) cap e hml
          exact ⟨_, _, _, _, hrun, fresh hx0 _ _ hO hge hle⟩

end Go.Sim
