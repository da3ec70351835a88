/- The contracts of slices.Insert, Clone and Grow (at []int), as the abstract machine takes them. -/
import Derived.Test.YtkbeimibpeofbaaGreatCfg
import Derived.Test.YtkbeimibpeofbaaGreatLay
import Derived.Test.YtkbeimibpeofbaaGreatTab
import Derived.Lib.LazyBuf
import Derived.Deep.Upon
import Derived.Lib.AppendZerosOnto
namespace Go.Proofs.Tryz
open Go Go.Sim

/-- Object r is a slice variable that holds nil. -/
theorem put_nil {C : Ctx} {M : Mem} (hM : MemOk C M) {r : Ref} (hr : M.obs r = none) :
    ∃ M', M'.w = M.w ∧ M'.obs = upd M.obs r (some (.arr 3 1 [] true)) ∧ MemOk C M' ∧ RepS M' (.own r 0) (.slice none 0 0) := by
  have hch : Change M r (.arr 3 1 [] true) none M.Pr M.w :=
    ⟨Nat.le_refl _, fun _ _ _ => rfl, fun b o hp => ⟨hp, rfl⟩, fun b o h hn => absurd h hn, fun b hb => by simp at hb, rfl, rfl, rfl, fun cells h => by simp [hr] at h, fun _ _ _ _ h => by simp [hr] at h⟩
  have hmu : (M.put r (.arr 3 1 [] true) none M.Pr M.w).mu r = none := upd_same _ _ _
  refine ⟨M.put r (.arr 3 1 [] true) none M.Pr M.w, rfl, rfl, hch.ok hM ⟨by omega, by simp, ?_⟩, ⟨_, _, _, rfl⟩, 3, 1, [], true, upd_same _ _ _, Nat.le_refl _, fun _ => ?_⟩
  · rw [hmu]
  · rw [hmu]; exact ⟨rfl, rfl⟩

theorem setCells_frame (b : Nat) : ∀ (vs : List Value) (o : Nat) (w : World), (w.setCells b o vs).os = w.os ∧ (w.setCells b o vs).tape = w.tape ∧ (w.setCells b o vs).output = w.output ∧ (w.setCells b o vs).heap.size = w.heap.size
  | [], _, _ => ⟨rfl, rfl, rfl, rfl⟩
  | v :: r, o, w => by
    obtain ⟨h1, h2, h3, h4⟩ := setCells_frame b r (o + 1) (w.setCell ⟨b, o, none⟩ v)
    rw [World.setCells]
    exact ⟨h1, h2, h3, h4.trans (by simp [World.setCell])⟩

theorem allocOld (w : World) (o : Obj) (i : Nat) (h : i < w.heap.size) : (w.alloc o).heap[i]? = w.heap[i]? := by
  show (w.heap.push o)[i]? = w.heap[i]?
  rw [Array.getElem?_push, if_neg (by omega)]

/-- Object r becomes (or is made) an array of one-cell rows that lies in block b'. -/
theorem put_row {C : Ctx} {M : Mem} (hM : MemOk C M) {r : Ref} {rows rows' : List (List AV)} (hB : M.obs r = none ∨ M.obs r = some (.arr 3 1 rows true)) (hlen : M.obs r ≠ none → rows.length < rows'.length)
    (hrows : ∀ row ∈ rows', row.length = 1) {w' : World} {b' cap : Nat} (hb : (M.obs r ≠ none ∧ M.mu r = some b') ∨ M.w.heap.size ≤ b') (hsz : M.w.heap.size ≤ w'.heap.size)
    (hoth : ∀ k, k < M.w.heap.size → k ≠ b' → w'.heap[k]? = M.w.heap[k]?) (hos : w'.os = M.w.os) (htp : w'.tape = M.w.tape) (hout : w'.output = M.w.output)
    {f : Nat → Value} (hrow : w'.rowIs b' 3 cap f) (hcap : rows'.length ≤ cap) (hmax : cap ≤ maxLen) (hc : ∀ i x, rows'[i]? = some [x] → RepC M.Pr M.w x (f i)) :
    ∃ M', M'.w = w' ∧ M'.obs = upd M.obs r (some (.arr 3 1 rows' true)) ∧ MemOk C M' ∧ RepS M' (.own r rows'.length) (.slice (some ⟨b', 0, none⟩) rows'.length cap) := by
  have hnp : ∀ o, ¬ M.Pr b' o := by
    intro o hp
    rcases hb with ⟨hr, hmu⟩ | hge
    · rcases hB with h | h
      · exact hr h
      · obtain ⟨_, _, hm⟩ := hM.obj r _ h
        rw [hmu] at hm
        obtain ⟨cs, cap', _, _, _, _, _, h6⟩ := hm
        have := (h6 o).1 hp
        simp at this
    · have := hM.prot_lt hp; omega
  have hch : Change M r (.arr 3 1 rows' true) (some b') M.Pr w' := by
    refine ⟨hsz, fun k hk hne => hoth k hk (fun e => ?_), fun k o hp => ⟨hp, ?_⟩, fun k o h hn => absurd h hn, fun k hk => ?_, hos, htp, hout, fun cells h => ?_, fun e sz rows0 wr h => ?_⟩
    · subst e
      rcases hb with ⟨hr, hmu⟩ | hge
      · exact hne hr hmu
      · omega
    · have hkb : k ≠ b' := fun e => hnp o (e ▸ hp)
      exact cell_heap (hoth k (hM.prot_lt hp) hkb) o
    · have := Option.some.inj hk
      subst this
      exact hb
    · rcases hB with h' | h' <;> simp [h'] at h
    · rcases hB with h' | h'
      · simp [h'] at h
      · have h8 := hlen (by simp [h'])
        have : 3 = e ∧ 1 = sz ∧ rows = rows0 ∧ true = wr := by simpa [h'] using h
        obtain ⟨rfl, rfl, rfl, rfl⟩ := this
        exact ⟨rows', true, rfl, by omega, fun hl => by omega⟩
  have hst := hch.stab hM
  obtain ⟨c, hc1, hc2, hc3⟩ := hrow
  have hmu : (M.put r (.arr 3 1 rows' true) (some b') M.Pr w').mu r = some b' := upd_same _ _ _
  refine ⟨M.put r (.arr 3 1 rows' true) (some b') M.Pr w', rfl, rfl, hch.ok hM ⟨by omega, hrows, ?_⟩, ⟨_, _, _, rfl⟩, 3, 1, rows', true, upd_same _ _ _, Nat.le_refl _, fun _ => ?_⟩
  · rw [hmu]
    refine ⟨c, cap, hc1, by omega, hcap, hmax, fun i row j x hi hj => hst.repC ?_, fun o => ⟨fun hp => absurd hp (hnp o), fun hp => by simp at hp⟩⟩
    have hr1 := hrows row (List.mem_of_getElem? hi)
    obtain ⟨y, rfl⟩ := List.length_eq_one_iff.1 hr1
    have hj0 : j = 0 := by have := (List.getElem?_eq_some_iff.1 hj).1; simp at this; omega
    subst hj0
    have hyx : y = x := by simpa using hj
    subst hyx
    have hlt : i < cap := Nat.lt_of_lt_of_le (List.getElem?_eq_some_iff.1 hi).1 hcap
    have h9 := hc3 i hlt
    rw [Array.getD_eq_getD_getElem?, Nat.mul_one, Nat.add_zero, h9]
    exact hc i y hi
  · rw [hmu]
    exact ⟨cap, c, hc1, by omega, hcap, hmax, rfl⟩

/-- How one-cell rows lie in a block's first cells. -/
theorem ins_cells {Pr : Prot} {w : World} {rows : List (List AV)} {c0 : Nat → Value} {x : AV} {u : Value} (h0 : ∀ i y, rows[i]? = some [y] → RepC Pr w y (c0 i)) (hu : RepC Pr w x u) (k : Nat) (hk : k ≤ rows.length)
    {i : Nat} {y : AV} (hi : (rows.take k ++ [[x]] ++ rows.drop k)[i]? = some [y]) : RepC Pr w y (if i < k then c0 i else if i = k then u else c0 (i - 1)) := by
  rw [List.append_assoc] at hi
  have htl : (rows.take k).length = k := by simp; omega
  by_cases h1 : i < k
  · rw [List.getElem?_append_left (by omega), List.getElem?_take_of_lt h1] at hi
    rw [if_pos h1]
    exact h0 i y hi
  · rw [List.getElem?_append_right (by omega), htl] at hi
    rw [if_neg h1]
    by_cases h2 : i = k
    · subst h2
      rw [if_pos rfl]
      have : x = y := by simpa using hi
      subst this
      exact hu
    · rw [if_neg h2]
      obtain ⟨j, hj⟩ : ∃ j, i - k = j + 1 := ⟨i - k - 1, by omega⟩
      rw [hj] at hi
      simp only [List.cons_append, List.nil_append, List.getElem?_cons_succ, List.getElem?_drop] at hi
      have : k + j = i - 1 := by omega
      rw [this] at hi
      exact h0 _ y hi

set_option maxHeartbeats 1000000 in
theorem insert_run {M : Mem} {C : Ctx} (hok : MemOk C M) {rows : List (List AV)} {k : Nat} {x : Int} (ho0 : M.obs (.out 0) = some (.arr 3 1 rows true)) (ho1 : M.obs (.out 1) = some (.arr 3 1 [[.int .i64 x]] false))
    {v0 v2 : Value} (h0 : RepS M (.own (.out 0) rows.length) v0) (h2 : RepS M (.own (.out 1) 1) v2) (hk : k ≤ rows.length) (hbig : rows.length < 1152921504606) :
    Calls prog 162 #[v0, .int .i64 k, v2] M.w fun e w' => ∃ v M', e = .returned v ∧ M'.w = w' ∧ M'.obs = upd M.obs (.out 0) (some (.arr 3 1 (rows.take k ++ [[.int .i64 x]] ++ rows.drop k) true)) ∧
      MemOk C M' ∧ RepS M' (.own (.out 0) (rows.length + 1)) v := by
  obtain ⟨_, e, sz, rowsX, wr, ho', _, hv0⟩ := h0
  have : 3 = e ∧ 1 = sz ∧ rows = rowsX ∧ true = wr := by simpa [ho0] using ho'
  obtain ⟨rfl, rfl, rfl, rfl⟩ := this
  have hv0 := hv0 rfl
  obtain ⟨_, e, sz, rowsX, wr, ho', _, hv2⟩ := h2
  have : 3 = e ∧ 1 = sz ∧ [[.int .i64 x]] = rowsX ∧ false = wr := by simpa [ho1] using ho'
  obtain ⟨rfl, rfl, rfl, rfl⟩ := this
  have hv2 := hv2 rfl
  have hrows : ∀ row ∈ rows, row.length = 1 := (hok.obj _ _ ho0).2.1
  have hob0 := (hok.obj _ _ ho0).2.2
  have hob1 := (hok.obj _ _ ho1).2.2
  -- the number that is inserted
  cases hm1 : M.mu (.out 1) with
  | none => rw [hm1] at hob1; simp at hob1
  | some vb =>
  rw [hm1] at hob1 hv2
  obtain ⟨c1, cap1, g1, g2, g3, g4, g5, _⟩ := hob1
  obtain ⟨cap1', cur1, q1, q2, q3, q4, rfl⟩ := hv2
  have : c1 = cur1 := by rw [g1] at q1; simpa using q1
  subst this
  obtain rfl : cap1 = cap1' := by omega
  have hu : c1[0]? = some (.int .i64 x) := by
    have h := g5 0 [.int .i64 x] 0 (.int .i64 x) rfl rfl
    have h' : c1[0]? = some (c1.getD 0 undef) := arr_getD (by simp at g3; omega)
    simp only [Nat.zero_mul, Nat.add_zero] at h
    rw [h']
    generalize c1.getD 0 undef = z at h
    cases h
    rfl
  have hvb : vb < M.w.heap.size := hok.block_lt ho1 hm1
  have hcv : ∀ j v, [Value.int .i64 x][j]? = some v → M.w.cell? ⟨vb, 0 + j, none⟩ = some v := by
    intro j v hj
    have hj0 : j = 0 := by have := (List.getElem?_eq_some_iff.1 hj).1; simp at this; omega
    subst hj0
    have : Value.int .i64 x = v := by simpa using hj
    subst this
    rw [cell_of_row M.w vb _ c1 3 (0, 0) g1]
    exact hu
  have hone : ∀ v ∈ [Value.int .i64 x], v.oneCell' = true := by intro v hv; simp at hv; subst hv; rfl
  have hl' : (rows.take k ++ [[AV.int .i64 x]] ++ rows.drop k).length = rows.length + 1 := by simp; omega
  have hrows' : ∀ row ∈ rows.take k ++ [[AV.int .i64 x]] ++ rows.drop k, row.length = 1 := by
    intro row hr
    simp only [List.append_assoc, List.mem_append, List.mem_cons, List.not_mem_nil, or_false] at hr
    rcases hr with h | rfl | h
    · exact hrows row (List.mem_of_mem_take h)
    · rfl
    · exact hrows row (List.mem_of_mem_drop h)
  have hne0 : M.obs (.out 0) ≠ none := by simp [ho0]
  have hgml : ∀ c, grownCap M.w (rows.length + 1) c 3 ≤ maxLen := fun c => grownCap_le_maxLen M.w _ c 3 (by simp only [maxLen]; omega)
  have hgge : ∀ c, rows.length + 1 ≤ grownCap M.w (rows.length + 1) c 3 := fun c => grownCap_ge M.w _ c 3
  cases hm0 : M.mu (.out 0) with
  | none =>
    rw [hm0] at hob0 hv0
    obtain ⟨_, rfl⟩ := hv0
    have hr0 : rows = [] := hob0
    subst hr0
    have hk0 : k = 0 := by simpa using hk
    subst hk0
    refine Calls.mono (Any2.slices_Insert_int_end_grow laysInsert none 0 0 vb 0 1 cap1 [] [.int .i64 x] M.w (by omega) (by omega) (by omega) (by omega) rfl rfl (fun _ => rfl) (fun a h => by simp at h) hcv hone) ?_
    rintro e w' ⟨rfl, rfl⟩
    have h5 := hgge 0
    simp only [List.length_nil, Nat.zero_add] at h5
    have hrow : (M.w.drew.alloc (.cells (([] ++ [Value.int .i64 x]).toArray ++ Builtin.zeroCells (Value.int .i64 0).cells (grownCap M.w (0 + 1) 0 3 - (0 + 1))) 3)).rowIs M.w.heap.size 3 (grownCap M.w (0 + 1) 0 3)
        (fun j => if j = 0 then .int .i64 x else (([] ++ [Value.int .i64 x]).toArray ++ Builtin.zeroCells (Value.int .i64 0).cells (grownCap M.w (0 + 1) 0 3 - (0 + 1))).getD j undef) := by
      have hs : (([] ++ [Value.int .i64 x]).toArray ++ Builtin.zeroCells (Value.int .i64 0).cells (grownCap M.w (0 + 1) 0 3 - (0 + 1))).size = grownCap M.w (0 + 1) 0 3 := by
        simp [size_zeroCells, Value.cells]; omega
      refine ⟨_, heap_alloc_new M.w.drew _, hs, fun i hi => ?_⟩
      by_cases h : i = 0
      · subst h
        rw [Array.getElem?_append_left (by simp)]
        rfl
      · simp only [h, if_false]
        exact arr_getD (by omega)
    obtain ⟨M', h1, h2, h3, h4⟩ := put_row hok (.inr ho0) (rows' := [] ++ [[AV.int .i64 x]] ++ []) (fun _ => by simp) hrows' (b' := M.w.heap.size) (.inr (Nat.le_refl _))
      (by simp) (fun j hj _ => allocOld M.w.drew _ j hj) rfl rfl rfl hrow (by simpa using h5) (hgml 0) (fun i y hi => by
        have hi0 : i = 0 := by have := (List.getElem?_eq_some_iff.1 hi).1; simp at this; omega
        subst hi0
        have : AV.int .i64 x = y := by simpa using hi
        subst this
        exact .int _ _)
    exact ⟨_, M', rfl, h1, h2, h3, h4⟩
  | some b =>
    rw [hm0] at hob0 hv0
    obtain ⟨c0, cap, p1, p2, p3, p4, p5, p6⟩ := hob0
    obtain ⟨cap', cur0, q1, q2, q3, q4, rfl⟩ := hv0
    have : c0 = cur0 := by rw [p1] at q1; simpa using q1
    subst this
    obtain rfl : cap = cap' := by omega
    have hbne : vb ≠ b := fun e => by
      have := hok.inj (.out 1) (.out 0) b (by simp [ho1]) hne0 (e ▸ hm1) hm0
      simp at this
    have hb : b < M.w.heap.size := hok.block_lt ho0 hm0
    have hmcap : cap ≤ 9223372036854775807 := by simpa [maxLen] using p4
    have hc0 : ∀ i y, rows[i]? = some [y] → RepC M.Pr M.w y (c0.getD i undef) := fun i y hi => by
      have := p5 i [y] 0 y hi rfl
      simpa using this
    have hrow0 : M.w.rowIs b 3 cap (fun j => c0.getD j undef) := ⟨c0, p1, by omega, fun i hi => arr_getD (by omega)⟩
    have hcl : (c0.toList.take rows.length).length = rows.length := by simp; omega
    have hcell : ∀ j v, (c0.toList.take rows.length)[j]? = some v → M.w.cell? ⟨b, 0 + j, none⟩ = some v := fun j v hj => by
      rw [Nat.zero_add, cell_of_row M.w b j c0 3 (0, 0) p1]
      rw [List.getElem?_take] at hj
      split at hj
      · simpa using hj
      · cases hj
    have hget : ∀ j, j < rows.length → (c0.toList.take rows.length)[j]? = some (c0.getD j undef) := fun j hj => by
      rw [List.getElem?_take_of_lt hj]
      have := arr_getD (cs := c0) (j := j) (by omega)
      simpa using this
    have hone0 : ∀ v ∈ c0.toList.take rows.length, v.oneCell' = true := by
      intro v hv
      obtain ⟨j, hj⟩ := List.getElem?_of_mem hv
      have hlt : j < rows.length := by have := (List.getElem?_eq_some_iff.1 hj).1; omega
      rw [hget j hlt] at hj
      have := Option.some.inj hj
      subst this
      have h1 := hrows rows[j] (List.getElem_mem hlt)
      obtain ⟨y, hy⟩ := List.length_eq_one_iff.1 h1
      exact (hc0 j y (by rw [List.getElem?_eq_getElem hlt, hy])).one
    have hsp : ∀ j, j < cap → (M.w.cell? ⟨b, 0 + j, none⟩).isSome = true := fun j hj => by
      rw [Nat.zero_add, hrow0.cell hj]; rfl
    have hfz : ∀ j, M.w.frozen? ⟨b, j, none⟩ = false := fun j => hrow0.frozen j
    by_cases hkn : k = rows.length
    · subst hkn
      by_cases hroom : rows.length + 1 ≤ cap
      · refine Calls.mono (Any2.slices_Insert_int_end_room laysInsert b 0 rows.length cap vb 0 1 cap1 [.int .i64 x] M.w (by omega) hroom hmcap rfl (fun j hj => by rw [Nat.add_assoc]; exact hsp _ (by omega)) (fun j hj => hfz _) hcv hone) ?_
        rintro e w' ⟨rfl, rfl⟩
        obtain ⟨f1, f2, f3, f4⟩ := setCells_frame b [Value.int .i64 x] (0 + rows.length) M.w
        obtain ⟨M', h1, h2, h3, h4⟩ := put_row hok (.inr ho0) (rows' := rows.take rows.length ++ [[AV.int .i64 x]] ++ rows.drop rows.length) (fun _ => by omega) hrows' (.inl ⟨hne0, hm0⟩) (Nat.le_of_eq f4.symm)
          (fun j hj hne => World.heap_setCells_other M.w b _ _ hj hne) f1 f2 f3 (rowIs_setCells _ _ _ _ hrow0) (by omega) p4 (fun i y hi => by
            have := ins_cells hc0 (.int .i64 x) rows.length (Nat.le_refl _) hi
            have hlt : i < rows.length + 1 := by rw [← hl']; exact (List.getElem?_eq_some_iff.1 hi).1
            by_cases h : i < rows.length
            · rw [if_neg (by omega)]; rw [if_pos h] at this; exact this
            · obtain rfl : i = rows.length := by omega
              rw [if_pos (by simp)]
              simpa using this)
        exact ⟨_, M', rfl, h1, h2, h3, by rw [hl'] at h4; exact h4⟩
      · refine Calls.mono (Any2.slices_Insert_int_end_grow laysInsert (some ⟨b, 0, none⟩) rows.length cap vb 0 1 cap1 (c0.toList.take rows.length) [.int .i64 x] M.w (by omega) p3 (by omega) (by omega) hcl rfl (fun h => by simp at h)
          (fun a ha j v hj => by
            obtain rfl := Option.some.inj ha
            rw [Addr.add_lit]
            exact hcell j v hj) hcv hone) ?_
        rintro e w' ⟨rfl, rfl⟩
        have h5 := hgge cap
        obtain ⟨row, hrw⟩ : ∃ row, row = ((c0.toList.take rows.length ++ [Value.int .i64 x]).toArray ++ Builtin.zeroCells (Value.int .i64 0).cells (grownCap M.w (rows.length + 1) cap 3 - (rows.length + 1))) := ⟨_, rfl⟩
        have hs : row.size = grownCap M.w (rows.length + 1) cap 3 := by
          rw [hrw]
          simp only [Array.size_append, size_zeroCells, List.size_toArray, List.length_append, hcl, List.length_cons, List.length_nil]
          simp [Value.cells]; omega
        have hrow : (M.w.drew.alloc (.cells row 3)).rowIs M.w.heap.size 3 (grownCap M.w (rows.length + 1) cap 3) (fun j => row.getD j undef) :=
          ⟨_, heap_alloc_new M.w.drew _, hs, fun i hi => arr_getD (by omega)⟩
        obtain ⟨M', h1, h2, h3, h4⟩ := put_row hok (.inr ho0) (rows' := rows.take rows.length ++ [[AV.int .i64 x]] ++ rows.drop rows.length) (fun _ => by omega) hrows' (b' := M.w.heap.size) (.inr (Nat.le_refl _))
          (by simp) (fun j hj _ => allocOld M.w.drew _ j hj) rfl rfl rfl hrow (by omega) (hgml cap) (fun i y hi => by
            have := ins_cells hc0 (.int .i64 x) rows.length (Nat.le_refl _) hi
            have hlt : i < rows.length + 1 := by rw [← hl']; exact (List.getElem?_eq_some_iff.1 hi).1
            by_cases h : i < rows.length
            · rw [if_pos h] at this
              have : row.getD i undef = c0.getD i undef := by
                have h6 := hget i h
                rw [hrw, Array.getD_eq_getD_getElem?, Array.getElem?_append_left (by simp; omega), List.getElem?_toArray, List.getElem?_append_left (by omega), h6]
                rfl
              rw [this]; assumption
            · obtain rfl : i = rows.length := by omega
              have h6 : row.getD rows.length undef = Value.int .i64 x := by
                rw [hrw, Array.getD_eq_getD_getElem?, Array.getElem?_append_left (by simp; omega), List.getElem?_toArray, List.getElem?_append_right (by omega), hcl, Nat.sub_self]
                rfl
              rw [h6]
              simpa using this)
        subst hrw
        exact ⟨_, M', rfl, h1, h2, h3, by rw [hl'] at h4; exact h4⟩
    · have hlt : k < rows.length := by omega
      have hdl : ((c0.toList.take rows.length).drop k).length = rows.length - k := by rw [List.length_drop, hcl]
      have hdget : ∀ j, j < rows.length - k → ((c0.toList.take rows.length).drop k)[j]? = some (c0.getD (k + j) undef) := fun j hj => by
        rw [List.getElem?_drop]; exact hget _ (by omega)
      by_cases hroom : rows.length + 1 ≤ cap
      · refine Calls.mono (Any2.slices_Insert_int_shift laysInsert b 0 rows.length cap k vb 0 1 cap1 (c0.toList.take rows.length) [.int .i64 x] M.w hlt (by omega) hroom hmcap hbne hcl rfl hcell (fun j hj => hsp _ (by omega)) (fun j hj => hfz _) hcv hone0 hone
          3 3 c1.size c0.size (by simp [World.shape?, g1]) (by simp [World.shape?, p1]) (by omega) (by simp [World.frozen?, g1]) (by simp [World.frozen?, g1])) ?_
        rintro e w' ⟨rfl, rfl⟩
        obtain ⟨f1, f2, f3, f4⟩ := setCells_frame b ((c0.toList.take rows.length).drop k) (0 + (k + 1)) M.w.drew
        obtain ⟨e1, e2, e3, e4⟩ := setCells_frame b [Value.int .i64 x] (0 + k) (M.w.drew.setCells b (0 + (k + 1)) ((c0.toList.take rows.length).drop k))
        have hrd : M.w.drew.rowIs b 3 cap (fun j => c0.getD j undef) := hrow0
        obtain ⟨M', h1, h2, h3, h4⟩ := put_row hok (.inr ho0) (rows' := rows.take k ++ [[AV.int .i64 x]] ++ rows.drop k) (fun _ => by omega) hrows' (.inl ⟨hne0, hm0⟩) (Nat.le_of_eq (e4.trans f4).symm)
          (fun j hj hne => (World.heap_setCells_other _ b _ _ (by rw [f4]; exact hj) hne).trans (World.heap_setCells_other M.w.drew b _ _ hj hne)) (e1.trans f1) (e2.trans f2) (e3.trans f3)
          (rowIs_setCells _ _ _ _ (rowIs_setCells _ _ _ _ hrd)) (by omega) p4 (fun i y hi => by
            have := ins_cells hc0 (.int .i64 x) k hk hi
            have hlt : i < rows.length + 1 := by rw [← hl']; exact (List.getElem?_eq_some_iff.1 hi).1
            simp only [Nat.zero_add, List.length_cons, List.length_nil]
            by_cases h : i < k
            · rw [if_pos h] at this
              rw [if_neg (by omega), if_neg (by omega)]
              exact this
            · rw [if_neg h] at this
              by_cases h' : i = k
              · subst h'
                rw [if_pos rfl] at this
                rw [if_pos (by omega), Nat.sub_self]
                exact this
              · rw [if_neg h'] at this
                rw [if_neg (by omega), if_pos (by rw [hdl]; omega), hdget _ (by omega), show k + (i - (k + 1)) = i - 1 by omega]
                exact this)
        exact ⟨_, M', rfl, h1, h2, h3, by rw [hl'] at h4; exact h4⟩
      · refine Calls.mono (Any2.slices_Insert_int_grow laysInsert b 0 rows.length cap k vb 0 1 cap1 (c0.toList.take rows.length) [.int .i64 x] M.w hlt (by omega) p3 (by omega) (by omega) hcl rfl hcell hcv hone0 hone) ?_
        rintro e w' ⟨rfl, rfl⟩
        have h5 := hgge cap
        obtain ⟨row, hrw⟩ : ∃ row, row = (((c0.toList.take rows.length).take k).toArray ++ Builtin.zeroCells (Value.int .i64 0).cells (rows.length + 1 - k) ++ Builtin.zeroCells (Value.int .i64 0).cells (grownCap M.w (rows.length + 1) cap 3 - (rows.length + 1))) := ⟨_, rfl⟩
        have hs : row.size = grownCap M.w (rows.length + 1) cap 3 := by
          rw [hrw]
          simp only [Array.size_append, size_zeroCells, List.size_toArray, List.length_take, hcl]
          simp [Value.cells]; omega
        have hrow : (M.w.alloc (.cells row 3)).drew.rowIs M.w.heap.size 3 (grownCap M.w (rows.length + 1) cap 3) (fun j => row.getD j undef) :=
          ⟨_, heap_alloc_new M.w _, hs, fun i hi => arr_getD (by omega)⟩
        obtain ⟨f1, f2, f3, f4⟩ := setCells_frame M.w.heap.size [Value.int .i64 x] k (M.w.alloc (.cells row 3)).drew
        obtain ⟨e1, e2, e3, e4⟩ := setCells_frame M.w.heap.size ((c0.toList.take rows.length).drop k) (k + 1) ((M.w.alloc (.cells row 3)).drew.setCells M.w.heap.size k [Value.int .i64 x]).drew
        have hr1 := rowIs_setCells [Value.int .i64 x] k _ _ hrow
        have hr1' : ((M.w.alloc (.cells row 3)).drew.setCells M.w.heap.size k [Value.int .i64 x]).drew.rowIs M.w.heap.size 3 _ _ := hr1
        obtain ⟨M', h1, h2, h3, h4⟩ := put_row hok (.inr ho0) (rows' := rows.take k ++ [[AV.int .i64 x]] ++ rows.drop k) (fun _ => by omega) hrows' (b' := M.w.heap.size) (w' := ((M.w.alloc (.cells row 3)).drew.setCells M.w.heap.size k [Value.int .i64 x]).drew.setCells M.w.heap.size (k + 1) ((c0.toList.take rows.length).drop k)) (.inr (Nat.le_refl _))
          (by rw [e4]; show _ ≤ ((M.w.alloc (.cells row 3)).drew.setCells M.w.heap.size k [Value.int .i64 x]).heap.size; rw [f4]; show _ ≤ (M.w.heap.push _).size; simp)
          (fun j hj hne => (World.heap_setCells_other ((M.w.alloc (.cells row 3)).drew.setCells M.w.heap.size k [Value.int .i64 x]).drew _ _ _ (by show j < ((M.w.alloc (.cells row 3)).drew.setCells M.w.heap.size k [Value.int .i64 x]).heap.size; rw [f4]; show j < (M.w.heap.push _).size; simp; omega) hne).trans
            ((World.heap_setCells_other (M.w.alloc (.cells row 3)).drew _ _ _ (by show j < (M.w.heap.push _).size; simp; omega) hne).trans (allocOld M.w _ j hj))) (e1.trans f1) (e2.trans f2) (e3.trans f3)
          (rowIs_setCells ((c0.toList.take rows.length).drop k) (k + 1) _ _ hr1') (by omega) (hgml cap) (fun i y hi => by
            have := ins_cells hc0 (.int .i64 x) k hk hi
            have hlt : i < rows.length + 1 := by rw [← hl']; exact (List.getElem?_eq_some_iff.1 hi).1
            simp only [List.length_cons, List.length_nil, Nat.zero_add]
            by_cases h : i < k
            · rw [if_pos h] at this
              rw [if_neg (by omega), if_neg (by omega)]
              have h6 : row.getD i undef = c0.getD i undef := by
                rw [hrw, Array.getD_eq_getD_getElem?, Array.getElem?_append_left (by simp [size_zeroCells]; omega), Array.getElem?_append_left (by simp; omega), List.getElem?_toArray, List.getElem?_take_of_lt h, hget i (by omega)]
                rfl
              rw [h6]
              exact this
            · rw [if_neg h] at this
              by_cases h' : i = k
              · subst h'
                rw [if_pos rfl] at this
                rw [if_neg (by omega), if_pos (by omega), Nat.sub_self]
                exact this
              · rw [if_neg h'] at this
                rw [if_pos (by rw [hdl]; omega), hdget _ (by omega), show k + (i - (k + 1)) = i - 1 by omega]
                exact this)
        subst hrw
        exact ⟨_, M', rfl, h1, h2, h3, by rw [hl'] at h4; exact h4⟩

open Go.Shelf Go.RowKit Go.Lib in
set_option maxHeartbeats 2000000 in
set_option maxRecDepth 100000 in
/-- slices.Clone of a slice that is not nil, whatever one-cell values it holds. -/
theorem clone_some {P : Program} {ρ : Ren} (L : Lays2.n15 P ρ) (a : Addr) (n c : Nat) (us : List Value) (w : World) (hl : us.length = n) (hbig : n * 8 ≤ 140737488355328) (hc : ∀ j u, us[j]? = some u → w.cell? (a.add j) = some u)
    (h1 : ∀ u ∈ us, u.oneCell' = true) : Calls P (ρ.f 15) #[.slice (some a) n c] w fun e w' => ∃ v', e = .returned v' ∧ w'.ownsRow w.heap.size (ρ.t 3) 1 v' n us ∧ v' ≠ .slice none 0 0 ∧ Below w.heap.size w w' := by
  have mixed := L.mixed; have t3 := L.t3; have a3 := L.a3; have z3 := L.z3; have v3 := L.v3; have t4 := L.t4; have a4 := L.a4; have z4 := L.z4; have v4 := L.v4; have t22 := L.t22; have a22 := L.a22; have z22 := L.z22; have v22 := L.v22
  obtain ⟨i0, hi, hz0, hz1, hz2⟩ := info_parts L.i3
  have q22 : ∀ (w : World) (a : Option Addr) (n c n' c' : Nat), (binOp .eql (ρ.t 22) (.slice a n c) (.slice none n' c')).run P w = .ok (.bool a.isNone) w := fun w a n c n' c' => Lib.run_eql_slice_nil w _ _ a n c n' c' L.t22
  have u22 : ∀ w, Sem.run P (underlying (ρ.t 22)) w = .ok (TypeDesc.slice (ρ.t 3)) w := run_underlying t22
  have A : Aside (∀ j u, us[j]? = some u → w.cell? (a.add j) = some u) := hc
  clear hc
  go_enter L.f15, Body2.n15_ntmps ρ
  go_wp2_with (at_builtin; refine wpList_append_own _ rfl _ _ (ρ.t 22) rfl w.heap.size (ρ.t 3) i0 (.int .i64 0) 1 8 t22 hi hz0 hz1 hz2 rfl (by decide) _ _ _ rfl (World.ownsRow_made w #[] 0 (Nat.le_refl _) (Nat.zero_le _) rfl) a n c us rfl ?qc1 ?qc2 ?qc3 ?qc4 ?qc5 ?qc6 ?_)
  case qc1 => simpa using hl
  case qc2 => intro j u hj; exact Lib.cell?_alloc_some _ (A.out j u hj)
  case qc3 => exact h1
  case qc4 => unfold maxLen; omega
  case qc5 => omega
  case qc6 => simp
  intro v' w1 hown hgrow hnil
  go_wp2
  go_ret
  refine ⟨v', rfl, by simpa using hown, ?_, ?_⟩
  · first | exact hnil | (intro e; exact absurd (hnil.1 e).1 (by simp))
  exact ((Below.refl _ w).alloc (Nat.le_refl _) _).grown hgrow (by simp) (by intro k hk; simp [Value.ownBlock] at hk; omega)

theorem mixed : prog.follows .mixedOrders = true := by kernel_rfl
theorem grow_nil0 (w : World) : Calls prog 154 #[.slice none 0 0, .int .i64 0] w fun e w' => e = .returned (.slice none 0 0) ∧ w' = w := by
  have mixed := mixed
  have t28 := underlying28; have a28 := isAgg28; have z28 := sizeOf28; have v28 := zeroValue28
  have t3 := underlying3; have a3 := isAgg3; have z3 := sizeOf3; have v3 := zeroValue3
  have t4 := underlying4; have a4 := isAgg4; have z4 := sizeOf4; have v4 := zeroValue4
  have u28 := run_underlying t28; have u3 := run_underlying t3; have u4 := run_underlying t4
  go_enter func154, ntmps154
  go_wp2
  go_ret
  exact ⟨rfl, rfl⟩
theorem grow_nil (n : Nat) (hn : 0 < n) (hb : n < 1152921504606) (w : World) : Calls prog 154 #[.slice none 0 0, .int .i64 n] w fun e w' =>
    e = .returned (.slice (some ⟨w.heap.size, 0, none⟩) 0 (grownCap w n 0 3)) ∧ w' = w.drew.alloc (.cells (Builtin.zeroCells (Value.int .i64 0).cells n ++ Builtin.zeroCells (Value.int .i64 0).cells (grownCap w n 0 3 - n)) 3) := by
  have mixed := mixed
  have t28 := underlying28; have a28 := isAgg28; have z28 := sizeOf28; have v28 := zeroValue28
  have t3 := underlying3; have a3 := isAgg3; have z3 := sizeOf3; have v3 := zeroValue3
  have t4 := underlying4; have a4 := isAgg4; have z4 := sizeOf4; have v4 := zeroValue4
  have u28 := run_underlying t28; have u3 := run_underlying t3; have u4 := run_underlying t4
  have h1 : ¬ ((n : Int) < 0) := by omega
  have h4 : (n : Int) > 0 := by omega
  obtain ⟨i0, hi0, hz0, hs0, hb0⟩ := info_parts (P := prog) (e := 3) (z := .int .i64 0) (size := 1) (bytes := 8) (by kernel_rfl)
  have hold : (Builtin.firstCells i0.size 0 (.slice none 0 0)).run prog w.drew = .ok ([] : List Value).toArray w.drew := run_firstCells_none w.drew i0.size 0 0 0
  have hrz : ∀ ty, (Builtin.append_ #[28, 3] ty #[.slice none 0 0, .int .i64 (n : Int)]).run prog w =
      .ok (.slice (some ⟨w.heap.size, 0, none⟩) n (grownCap w n 0 3)) (w.drew.alloc (.cells (Builtin.zeroCells (Value.int .i64 0).cells n ++ Builtin.zeroCells (Value.int .i64 0).cells (grownCap w n 0 3 - n)) 3)) := fun ty => by
    have h := Lib.run_append_grow_zeros w 28 3 ty 3 i0 _ .i64 .i64 t28 t3 hi0 hz0 none 0 0 [] hold n (by omega) (by omega) (by omega) (by omega) (by rw [hb0]; omega) (by rw [hb0]; exact growslice_fits (by omega) (by omega))
    simpa using h
  have hGn : n ≤ grownCap w n 0 3 := grownCap_ge w _ _ _
  obtain ⟨G, hG⟩ : ∃ G, G = grownCap w n 0 3 := ⟨_, rfl⟩
  rw [← hG] at hrz hGn ⊢
  have hG63 : G ≤ 9223372036854775807 := by
    have := grownCap_le_maxLen w n 0 3 (by unfold maxLen; omega)
    rw [← hG] at this
    unfold maxLen at this
    omega
  clear hold hG
  go_enter func154, ntmps154
  go_wp2_with (at_builtin; refine Lib.wpList_append_run _ rfl _ _ _ _ rfl _ _ rfl rfl _ _ (hrz _) ?_)
  all_goals (go_ret; exact ⟨rfl, rfl⟩)

theorem obs_new (o : Ob) : upd (obsOf []) (.out 0) (some o) = obsOf [o] := by
  funext q
  cases q with
  | loc a b => simp [upd, obsOf]
  | out j => cases j <;> simp [upd, obsOf]
theorem obs_two (o o1 o' : Ob) : upd (obsOf [o, o1]) (.out 0) (some o') = obsOf [o', o1] := by
  funext q
  cases q with
  | loc a b => simp [upd, obsOf]
  | out j => cases j <;> simp [upd, obsOf]

theorem does_grow {args : List AV} {outs : List Ob} {r : AV × List Ob} (h : growF args outs = some r) : Does prog 154 args outs r.1 r.2 := by
  unfold growF at h
  split at h
  · rename_i k
    split at h
    · rename_i hk
      have := Option.some.inj h
      subst this
      refine ⟨fun vs w => run_callFunc func154 (by rw [f154]) (by rw [f154]; rfl) vs w, fun M vs ho hok hvl hvs => ?_⟩
      match vs, hvl with
      | [v0, v1], _ =>
        have h0 : v0 = .slice none 0 0 := hvs 0 _ v0 rfl rfl
        have h1 : v1 = .int .i64 k := hvs 1 _ v1 rfl rfl
        subst h0 h1
        have hn : M.obs (.out 0) = none := by rw [ho]; rfl
        obtain ⟨n, rfl⟩ : ∃ n : Nat, k = n := ⟨k.toNat, by omega⟩
        by_cases hz : n = 0
        · subst hz
          refine Calls.mono (grow_nil0 M.w) ?_
          rintro e w' ⟨rfl, rfl⟩
          obtain ⟨M', g1, g2, g3, g4⟩ := put_nil hok hn
          exact ⟨_, M', rfl, g1, by rw [g2, ho, obs_new], g3, .of (.of g4)⟩
        · refine Calls.mono (grow_nil n (by omega) (by omega) M.w) ?_
          rintro e w' ⟨rfl, rfl⟩
          have hge := grownCap_ge M.w n 0 3
          have hs : (Builtin.zeroCells (Value.int .i64 0).cells n ++ Builtin.zeroCells (Value.int .i64 0).cells (grownCap M.w n 0 3 - n)).size = grownCap M.w n 0 3 := by
            simp [size_zeroCells, Value.cells]; omega
          obtain ⟨M', g1, g2, g3, g4⟩ := put_row hok (.inl hn) (rows := []) (rows' := []) (fun h => absurd hn h) (by simp) (b' := M.w.heap.size) (.inr (Nat.le_refl _)) (by simp)
            (fun j hj _ => allocOld M.w.drew _ j hj) rfl rfl rfl ⟨_, heap_alloc_new M.w.drew _, hs, fun i hi => arr_getD (by omega)⟩ (Nat.zero_le _) (grownCap_le_maxLen M.w n 0 3 (by simp only [maxLen]; omega)) (fun i x hi => by simp at hi)
          exact ⟨_, M', rfl, g1, by rw [g2, ho, obs_new], g3, .of (.of g4)⟩
    · cases h
  · cases h

theorem does_insert {args : List AV} {outs : List Ob} {r : AV × List Ob} (h : insertF args outs = some r) : Does prog 162 args outs r.1 r.2 := by
  unfold insertF at h
  split at h
  · rename_i n k e sz rows x
    split at h
    · rename_i hk
      obtain ⟨h1, h2, h3, rfl, rfl, h6⟩ := hk
      subst h1
      have := Option.some.inj h
      subst this
      obtain ⟨k, rfl⟩ : ∃ j : Nat, k = j := ⟨k.toNat, by omega⟩
      refine ⟨fun vs w => run_callFunc func162 (by rw [f162]) (by rw [f162]; rfl) vs w, fun M vs ho hok hvl hvs => ?_⟩
      match vs, hvl with
      | [v0, v1, v2], _ =>
        have h0 : RepS M (.own (.out 0) rows.length) v0 := hvs 0 _ v0 rfl rfl
        have h1 : v1 = .int .i64 k := hvs 1 _ v1 rfl rfl
        have h2 : RepS M (.own (.out 1) 1) v2 := hvs 2 _ v2 rfl rfl
        subst h1
        refine Calls.mono (insert_run hok (x := x) (by rw [ho]; rfl) (by rw [ho]; rfl) h0 h2 (by omega) (by omega)) ?_
        rintro e w' ⟨v, M', rfl, g1, g2, g3, g4⟩
        exact ⟨_, M', rfl, g1, by rw [g2, ho, obs_two, Int.toNat_natCast], g3, .of (.of g4)⟩
    · cases h
  · cases h

theorem rowLens_one : ∀ {rows : List (List AV)}, rowLens 1 rows = true → ∀ row ∈ rows, row.length = 1 := by
  intro rows h row hr
  have := List.all_eq_true.1 h row hr
  simpa using this

theorem does_clone {args : List AV} {outs : List Ob} {r : AV × List Ob} (h : cloneF args outs = some r) : Does prog 158 args outs r.1 r.2 := by
  unfold cloneF at h
  split at h
  · rename_i rows
    split at h
    · rename_i hk
      obtain ⟨h1, h2⟩ := hk
      have hrows := rowLens_one h2
      have := Option.some.inj h
      subst this
      refine ⟨fun vs w => run_callFunc func158 (by rw [f158]) (by rw [f158]; rfl) vs w, fun M vs ho hok hvl hvs => ?_⟩
      match vs, hvl with
      | [v0], _ =>
        have h0 : RepC M.Pr M.w (.sl rows) v0 := hvs 0 _ v0 rfl rfl
        have hn : M.obs (.out 0) = none := by rw [ho]; rfl
        -- a slice that is not nil
        have some_ : ∀ (a : Addr) (c : Nat) (us : List Value), us.length = rows.length → (∀ j u, us[j]? = some u → M.w.cell? (a.add j) = some u) → (∀ (i : Nat) (x : AV), rows[i]? = some [x] → ∃ u : Value, us[i]? = some u ∧ RepC M.Pr M.w x u) →
            Calls prog 158 #[.slice (some a) rows.length c] M.w fun e w' => ∃ v M', e = .returned v ∧ M'.w = w' ∧ M'.obs = obsOf [.arr 3 1 rows true] ∧ MemOk (cctx M 0) M' ∧ RepV M' (.own (.out 0) rows.length) v := by
          intro a c us hl hc hu
          have hone : ∀ u ∈ us, u.oneCell' = true := by
            intro u hm
            obtain ⟨j, hj⟩ := List.getElem?_of_mem hm
            have hlt : j < rows.length := by have := (List.getElem?_eq_some_iff.1 hj).1; omega
            obtain ⟨y, hy⟩ := List.length_eq_one_iff.1 (hrows rows[j] (List.getElem_mem hlt))
            obtain ⟨u', h3, h4⟩ := hu j y (by rw [List.getElem?_eq_getElem hlt, hy])
            rw [hj] at h3
            obtain rfl := Option.some.inj h3
            exact h4.one
          refine Calls.mono (clone_some laysClone a rows.length c us M.w hl (by omega) hc hone) ?_
          rintro e w' ⟨v, rfl, ⟨hxl, hown⟩, hnn, hbel⟩
          rcases hown with ⟨rfl, hz⟩ | ⟨g, cap, cur, rfl, hge, hg, hn1, hcap, hcs, htk⟩
          · exact absurd rfl hnn
          · obtain ⟨M', g1, g2, g3, g4⟩ := put_row hok (.inl hn) (rows := []) (rows' := rows) (fun h => absurd hn h) hrows (b' := g) (.inr hge) hbel.size
              (fun j hj _ => hbel.block j hj) hbel.os hbel.tape hbel.output (f := fun j => cur.getD j undef) ⟨_, hg, by omega, fun i hi => arr_getD (by omega)⟩ hn1 hcap (fun i x hi => by
                obtain ⟨u, h3, h4⟩ := hu i x hi
                have hlt : i < rows.length := (List.getElem?_eq_some_iff.1 hi).1
                have h5 : cur.getD i undef = u := by
                  rw [← htk] at h3
                  rw [List.getElem?_take_of_lt (by omega)] at h3
                  rw [Array.getD_eq_getD_getElem?]
                  have h3' : cur[i]? = some u := by simpa using h3
                  rw [h3']; rfl
                show RepC M.Pr M.w x (cur.getD i undef)
                rw [h5]; exact h4)
            exact ⟨_, M', rfl, g1, by rw [g2, ho, obs_new], g3, .of (.of g4)⟩
        cases h0 with
        | sl0 A cap hcap =>
          cases A with
          | none =>
            refine Calls.mono (Any.slices_Clone_int_nil laysClone 0 cap M.w) ?_
            rintro e w' ⟨rfl, rfl⟩
            obtain ⟨M', g1, g2, g3, g4⟩ := put_nil hok hn
            exact ⟨_, M', rfl, g1, by rw [g2, ho, obs_new], g3, .of (.of g4)⟩
          | some a => exact some_ a cap [] rfl (by simp) (by simp)
        | sl _ b o cap sz cv hn1 hcap hsz hc hr =>
          refine some_ ⟨b, o, none⟩ cap ((List.range rows.length).map fun i => cv i 0) (by simp) (fun j u hj => ?_) (fun i x hi => ?_)
          · have hlt : j < rows.length := by have := (List.getElem?_eq_some_iff.1 hj).1; simpa using this
            have hju : cv j 0 = u := by simpa [hlt] using hj
            obtain ⟨y, hy⟩ := List.length_eq_one_iff.1 (hrows rows[j] (List.getElem_mem hlt))
            have hs1 : sz = 1 := by rw [← hsz rows[j] (List.getElem_mem hlt), hy]; rfl
            have := (hc j [y] 0 y (by rw [List.getElem?_eq_getElem hlt, hy]) rfl).2
            rw [Addr.add_lit, ← hju, ← this, hs1]
            simp
          · have hlt : i < rows.length := (List.getElem?_eq_some_iff.1 hi).1
            exact ⟨cv i 0, by simp [hlt], hr i [x] 0 x hi rfl⟩
    · cases h
  · cases h

theorem cfg_ok : CfgOk prog cfg := by
  refine ⟨mixed, tab_ok, fun f g args outs r hl hg => ?_⟩
  have hl : libT f = some g := hl
  unfold libT at hl
  split at hl
  · rename_i he; subst he; obtain rfl := Option.some.inj hl; exact does_insert hg
  · split at hl
    · rename_i he; subst he; obtain rfl := Option.some.inj hl; exact does_grow hg
    · split at hl
      · rename_i he; subst he; obtain rfl := Option.some.inj hl; exact does_clone hg
      · cases hl
end Go.Proofs.Tryz
