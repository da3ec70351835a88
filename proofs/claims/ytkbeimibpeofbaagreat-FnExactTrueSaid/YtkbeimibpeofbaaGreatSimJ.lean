/- Stores and new variables; addresses of fields and elements. -/
import Derived.Test.YtkbeimibpeofbaaGreatSimI
namespace Go.Sim

/-- The cells of a value that is no tuple. -/
def cellsA : AV → Option (List AV)
  | .agg cells => some cells
  | .tup _ => none
  | .junk => none
  | x => some [x]

theorem cellsA_rep {M : Mem} {x : AV} {cells : List AV} (h : cellsA x = some cells) {v : Value} (hv : RepV M x v) :
    v.cells.size = cells.length ∧ ∀ j y, cells[j]? = some y → RepS M y (v.cells.getD j undef) := by
  rcases hv.split with ⟨vs, rfl⟩ | hv
  · simp [cellsA] at h
  · rcases hv.split with rfl | ⟨cs, rfl⟩ | hs
    · simp [cellsA] at h
    · have := Option.some.inj h
      subst this
      obtain ⟨us, rfl, h2, h3⟩ := hv
      exact ⟨h2, h3⟩
    · have hc : cells = [x] := by
        cases x <;> first | exact (Option.some.inj h).symm | exact False.elim hs | simp [cellsA] at h
      subst hc
      have h1 := hs.one
      have hv : v.cells = #[v] := by cases v <;> first | rfl | simp [Value.oneCell'] at h1
      rw [hv]
      refine ⟨rfl, fun j y hj => ?_⟩
      cases j with
      | zero => simp at hj; subst hj; exact hs
      | succ j => simp at hj

theorem run_storeVar_at {P : Program} {t : TypeId} {ti : TI} (hT : TIok P t ti) (w : World) (b off : Nat) (cs : Array Value) (T : TypeId) (hb : w.heap[b]? = some (.cells cs T (0, 0))) (v : Value)
    (hs : v.cells.size = ti.size) (hl : off + v.cells.toList.length ≤ cs.size) (h1 : ∀ u ∈ v.cells.toList, u.oneCell' = true) :
    (storeVar t ⟨b, off, none⟩ v).run P w = .ok () (w.setRow b (splice cs.toList off v.cells.toList).toArray) := by
  have := run_storeCells_at P b off T v.cells.toList 0 cs w hb (by simpa using hl) h1
  simp only [Nat.add_zero] at this
  simp [storeVar, hT.size, hs, this, splice]

theorem mem_one {M : Mem} {cells : List AV} {cs : Array Value} (hs : cs.size = cells.length) (h : ∀ j y, cells[j]? = some y → RepS M y (cs.getD j undef)) : ∀ u ∈ cs.toList, u.oneCell' = true := by
  intro u hu
  obtain ⟨k, hk⟩ := List.getElem?_of_mem hu
  have hlt : k < cs.size := by have := (List.getElem?_eq_some_iff.1 hk).1; simpa using this
  have := (h k cells[k] (List.getElem?_eq_getElem (by omega))).one
  have e : cs.getD k undef = u := by
    have h2 := arr_getD hlt
    rw [← Array.getElem?_toList, hk] at h2
    exact (Option.some.inj h2).symm
  rwa [e] at this

theorem toList_get {M : Mem} {cells : List AV} {cs : Array Value} (h : ∀ j y, cells[j]? = some y → RepS M y (cs.getD j undef)) :
    ∀ (j : Nat) x v, cells[j]? = some x → cs.toList[j]? = some v → RepS M x v := by
  intro j x v hx hv
  have := h j x hx
  have e : cs.getD j undef = v := by
    rw [Array.getElem?_toList] at hv
    simp [Array.getD_eq_getD_getElem?, hv]
  rwa [e] at this

section
variable {P : Program} {n : Nat} {o : Oper}

theorem ls_store_ptr (hd : o.dst = none) {t : TypeId} {ti : TI} (hT : TIok P t ti) {x y : Operand} (ho : o.op = .store t x y) {r : Ref} {cells : List AV} {off : Nat} {v : AV} {xs : List AV}
    (hc : cellsA v = some xs) (hxs : xs.length = ti.size) (hl : off + xs.length ≤ cells.length) :
    LStep P n o ⟨[(x, .ptr r off), (y, v)], [(r, .box cells)], [], .junk, [(r, .box (splice cells off xs))]⟩ := by
  refine .skip hd fun C env M a hR h1 h2 _ => ?_
  have hx := hR.ev x
  rw [h1 (x, .ptr r off) (by simp)] at hx
  have hy := hR.ev y
  rw [h1 (y, v) (by simp)] at hy
  have hr := h2 (r, .box cells) (by simp)
  obtain ⟨cells', b, h3, _, hm, hv⟩ := hx
  obtain ⟨hs, hrep⟩ := cellsA_rep hc hy
  obtain ⟨b', cs, T, g1, g2, g3, g4, g5⟩ := store_box hR.mem hr off xs (a.eval y).cells.toList hl (by simpa using hs) (toList_get hrep)
  have : b' = b := Option.some.inj (g1.symm.trans hm)
  subst this
  refine ⟨_, ?_, g4, g5, by simp [Mem.put, updAll_one]⟩
  have := run_storeVar_at hT M.w b' off cs T g2 (a.eval y) (by rw [hs, hxs]) g3 (mem_one hs hrep)
  simp [execOp, ho, Instr.storeAt, Instr.sureAddr, hv, this, Mem.put]

theorem ls_store_eptr (hd : o.dst = none) {t : TypeId} {ti : TI} (hT : TIok P t ti) {x y : Operand} (ho : o.op = .store t x y) {r : Ref} {e sz : Nat} {rows : List (List AV)} {i off : Nat} {row : List AV}
    (hi : rows[i]? = some row) {v : AV} {xs : List AV} (hc : cellsA v = some xs) (hxs : xs.length = ti.size) (hl : off + xs.length ≤ row.length) {xs' : List AV} {R : List (Ref × Ob)} (hxl : xs'.length = xs.length)
    (hcl : ∀ (C : Ctx) (M : Mem), MemOk C M → (∀ p ∈ R, M.obs p.1 = some p.2) → ∀ (j : Nat) z z' u, xs[j]? = some z → xs'[j]? = some z' → RepS M z u → RepC M.Pr M.w z' u) :
    LStep P n o ⟨[(x, .eptr r rows.length i off), (y, v)], (r, .arr e sz rows true) :: R, [], .junk, [(r, .arr e sz (rows.set i (splice row off xs')) true)]⟩ := by
  refine .skip hd fun C env M a hR h1 h2 _ => ?_
  have hx := hR.ev x
  rw [h1 (x, .eptr r rows.length i off) (by simp)] at hx
  have hy := hR.ev y
  rw [h1 (y, v) (by simp)] at hy
  have hr := h2 (r, .arr e sz rows true) (by simp)
  obtain ⟨_, e', sz', rows', wr', h3, _, hv⟩ := hx
  have : e = e' ∧ sz = sz' ∧ rows = rows' ∧ true = wr' := by rw [show M.obs r = some (.arr e sz rows true) from hr] at h3; simpa using h3
  obtain ⟨rfl, rfl, rfl, rfl⟩ := this
  obtain ⟨b, hm, hv⟩ := hv rfl
  obtain ⟨hs, hrep⟩ := cellsA_rep hc hy
  obtain ⟨b', cs, g1, g2, g3, g4, g5⟩ := store_arr hR.mem hr i row hi off xs' (a.eval y).cells.toList (by omega) (by rw [hxl]; simpa using hs) (fun j z' u hj hu => by
    have hjl : j < xs.length := by rw [← hxl]; exact (List.getElem?_eq_some_iff.1 hj).1
    exact hcl C M hR.mem (fun p hp => h2 p (.tail _ hp)) j xs[j] z' u (List.getElem?_eq_getElem hjl) hj (toList_get hrep j xs[j] u (List.getElem?_eq_getElem hjl) hu))
  have : b' = b := Option.some.inj (g1.symm.trans hm)
  subst this
  refine ⟨_, ?_, g4, g5, by simp [Mem.put, updAll_one]⟩
  have := run_storeVar_at hT M.w b' (i * sz + off) cs e g2 (a.eval y) (by rw [hs, hxs]) g3 (mem_one hs hrep)
  simp [execOp, ho, Instr.storeAt, Instr.sureAddr, hv, this, Mem.put]
end

section
variable {P : Program} {n : Nat} {o : Oper} (hd : ∀ d, o.dst = some d → d < n)
include hd

theorem ls_alloc {t : TypeId} {ti : TI} (hT : TIok P t ti) (ho : o.op = .alloc t) (r : Ref) : LStep P n o ⟨[], [], [r], .ptr r 0, [(r, .box ti.zero)]⟩ := by
  refine .val hd fun C env M a hR _ _ h3 => ?_
  obtain ⟨z, hz, hs, hl, hp, hzl⟩ := hT.zero (P := P) M.w
  obtain ⟨g1, g2, g3⟩ := alloc_box hR.mem (h3 r (.head _)) ti.zero z.cells t (by rw [hs, hzl]) (fun j x hj => by
    have : z.cells.getD j undef = toV x := by
      have h : z.cells.toList[j]? = some (toV x) := by rw [hl]; simp [hj]
      rw [Array.getElem?_toList] at h
      simp [Array.getD_eq_getD_getElem?, h]
    rw [this]
    exact toV_rep (hp j x hj))
  exact ⟨_, _, by simp [execOp, ho, Instr.alloc, hz, newVar, newRow, Mem.put], g1, g2, by simp [Mem.put, updAll_one], .of (.of g3)⟩

theorem ls_box {t : TypeId} {x : Operand} (ho : o.op = .box t x) {v : AV} {xs : List AV} (hc : cellsA v = some xs) (r : Ref) : LStep P n o ⟨[(x, v)], [], [r], .ptr r 0, [(r, .box xs)]⟩ := by
  refine .val hd fun C env M a hR h1 _ h3 => ?_
  have hx := hR.ev x
  rw [h1 (x, v) (by simp)] at hx
  obtain ⟨hs, hrep⟩ := cellsA_rep hc hx
  obtain ⟨g1, g2, g3⟩ := alloc_box hR.mem (h3 r (.head _)) xs (a.eval x).cells t hs hrep
  exact ⟨_, _, by simp [execOp, ho, Instr.box, newVar, newRow, Mem.put], g1, g2, by simp [Mem.put, updAll_one], .of (.of g3)⟩

omit hd in
/-- The address of a field. -/
theorem run_fieldAt_at {t ft : TypeId} {ti fti : TI} {fs : List (Nat × TypeId)} {i off : Nat} (hT : TIok P t ti) (hk : ti.k = .struct fs) (hi : fs[i]? = some (off, ft)) (hF : TIok P ft fti) (h0 : 0 < fti.size)
    (w : World) (b o' : Nat) : (Instr.fieldAt t (.pointer (some ⟨b, o', none⟩)) i).run P w = .ok (.pointer (some ⟨b, o' + off, none⟩)) w := by
  obtain ⟨d, h1, h2⟩ := hT.und
  rw [hk] at h2
  obtain ⟨fields, rfl, hf⟩ := h2
  have : ∃ f, fields[i]? = some f ∧ f.offset = off ∧ f.type = ft := by
    rw [← hf] at hi
    simp only [List.getElem?_map, Option.map_eq_some_iff, Array.getElem?_toList] at hi
    obtain ⟨f, hf1, hf2⟩ := hi
    simp at hf2
    exact ⟨f, hf1, hf2.1, hf2.2⟩
  obtain ⟨f, hf1, rfl, rfl⟩ := this
  have hne : ¬ fti.size = 0 := by omega
  simp [Instr.fieldAt, run_underlying h1, hf1, Instr.sureAddr, fieldPlace, hF.size, hne, addr_add]

theorem ls_field_ptr {t ft : TypeId} {ti fti : TI} {fs : List (Nat × TypeId)} {i off : Nat} (hT : TIok P t ti) (hk : ti.k = .struct fs) (hi : fs[i]? = some (off, ft)) (hF : TIok P ft fti) (h0 : 0 < fti.size)
    {x : Operand} (ho : o.op = .fieldAddr t x i) {r : Ref} {o' : Nat} {cells : List AV} (hl : o' + off ≤ cells.length) :
    LStep P n o ⟨[(x, .ptr r o')], [(r, .box cells)], [], .ptr r (o' + off), []⟩ := by
  refine .pure hd fun C env M a hR h1 h2 => ?_
  have hx := hR.ev x
  rw [h1 _ (.head _)] at hx
  have hr := h2 _ (.head _)
  obtain ⟨cells', b, h3, _, hm, hv⟩ := hx
  refine ⟨.pointer (some ⟨b, o' + off, none⟩), ?_, .of (.of ⟨cells, b, hr, hl, hm, rfl⟩)⟩
  simp [execOp, ho, hv, run_fieldAt_at hT hk hi hF h0]

theorem ls_field_rp {t ft : TypeId} {ti fti : TI} {fs : List (Nat × TypeId)} {i off : Nat} (hT : TIok P t ti) (hk : ti.k = .struct fs) (hi : fs[i]? = some (off, ft)) (hF : TIok P ft fti) (h0 : 0 < fti.size)
    {x : Operand} (ho : o.op = .fieldAddr t x i) {cells : List AV} {o' : Nat} :
    LStep P n o ⟨[(x, .rp cells o')], [], [], .rp cells (o' + off), []⟩ := by
  refine .pure hd fun C env M a hR h1 h2 => ?_
  have hx := hR.ev x
  rw [h1 _ (.head _)] at hx
  obtain ⟨b, q, hv, hc⟩ := hx
  refine ⟨.pointer (some ⟨b, q + (o' + off), none⟩), ?_, .of (.of ⟨b, q, rfl, hc⟩)⟩
  simp [execOp, ho, hv, run_fieldAt_at hT hk hi hF h0, Nat.add_assoc]

theorem ls_field_eptr {t ft : TypeId} {ti fti : TI} {fs : List (Nat × TypeId)} {i off : Nat} (hT : TIok P t ti) (hk : ti.k = .struct fs) (hi : fs[i]? = some (off, ft)) (hF : TIok P ft fti) (h0 : 0 < fti.size)
    {x : Operand} (ho : o.op = .fieldAddr t x i) {r : Ref} {m o' : Nat} {e sz : Nat} {rows : List (List AV)} {wr : Bool} {j : Nat} (hm : rows.length = m) :
    LStep P n o ⟨[(x, .eptr r m j o')], [(r, .arr e sz rows wr)], [], .eptr r m j (o' + off), []⟩ := by
  refine .pure hd fun C env M a hR h1 h2 => ?_
  have hx := hR.ev x
  rw [h1 _ (.head _)] at hx
  have hr := h2 _ (.head _)
  obtain ⟨_, e', sz', rows', wr', h3, h4, hv⟩ := hx
  have : e = e' ∧ sz = sz' ∧ rows = rows' ∧ wr = wr' := by rw [show M.obs r = some (.arr e sz rows wr) from hr] at h3; simpa using h3
  obtain ⟨rfl, rfl, rfl, rfl⟩ := this
  obtain ⟨b, hb, hv⟩ := hv hm
  refine ⟨.pointer (some ⟨b, j * sz + o' + off, none⟩), ?_, .of (.of ⟨⟨_, rfl⟩, e, sz, rows, wr, hr, h4, fun _ => ⟨b, hb, by rw [Nat.add_assoc]⟩⟩)⟩
  simp [execOp, ho, hv, run_fieldAt_at hT hk hi hF h0]

omit hd in
theorem run_indexAt_sl {t e : TypeId} {ti eti : TI} (hT : TIok P t ti) (hk : ti.k = .slice e) (hE : TIok P e eti) (w : World) (b o' len cap : Nat) (k : IntKind) (i : Int) (h : 0 ≤ i ∧ i < len) :
    (Instr.indexAt t (.slice (some ⟨b, o', none⟩) len cap) (.int k i)).run P w = .ok (.pointer (some ⟨b, o' + i.toNat * eti.size, none⟩)) w := by
  obtain ⟨d, h1, h2⟩ := hT.und
  rw [hk] at h2
  have : d = .slice e := h2
  subst this
  simp [Instr.indexAt, run_underlying h1, asIntOf, h, hE.size, addr_add]

/-- The address of an element of a slice that is only read. -/
theorem ls_index_sl {t e : TypeId} {ti eti : TI} (hT : TIok P t ti) (hk : ti.k = .slice e) (hE : TIok P e eti) {x y : Operand} (ho : o.op = .indexAddr t x y) {rows : List (List AV)} {k : IntKind} {i : Int} {row : List AV}
    (h0 : 0 ≤ i) (hi : rows[i.toNat]? = some row) (hrl : row.length = eti.size) : LStep P n o ⟨[(x, .sl rows), (y, .int k i)], [], [], .rp row 0, []⟩ := by
  refine .pure hd fun C env M a hR h1 h2 => ?_
  have hx := hR.ev x
  rw [h1 (x, .sl rows) (by simp)] at hx
  have hy := hR.ev y
  rw [h1 (y, .int k i) (by simp)] at hy
  have hy := rep_int hy
  have hlt : i.toNat < rows.length := (List.getElem?_eq_some_iff.1 hi).1
  generalize hax : a.eval x = vx at hx
  have hx : RepC M.Pr M.w (.sl rows) vx := hx
  cases hx with
  | sl0 A cap _ => simp at hi
  | sl _ b o' cap sz cv hn hcap hsz hc hr =>
    have hs : sz = eti.size := by rw [← hrl]; exact (hsz row (List.mem_of_getElem? hi)).symm
    refine ⟨.pointer (some ⟨b, o' + i.toNat * sz, none⟩), ?_, .of (.of ⟨b, o' + i.toNat * sz, rfl, fun j z hz => ?_⟩)⟩
    · simp [execOp, ho, hax, hy, run_indexAt_sl hT hk hE M.w b o' rows.length cap k i ⟨h0, by omega⟩, hs]
    · obtain ⟨p, c⟩ := hc _ row j z hi hz
      rw [Nat.add_assoc]
      exact ⟨p, cv i.toNat j, c, hr _ row j z hi hz⟩

/-- .. of an array object. -/
theorem ls_index_own {t e : TypeId} {ti eti : TI} (hT : TIok P t ti) (hk : ti.k = .slice e) (hE : TIok P e eti) {x y : Operand} (ho : o.op = .indexAddr t x y) {r : Ref} {e' : Nat} {rows : List (List AV)} {wr : Bool} {k : IntKind} {i : Int} {m : Nat}
    (hm : rows.length = m) (h0 : 0 ≤ i) (hi : i < m) : LStep P n o ⟨[(x, .own r m), (y, .int k i)], [(r, .arr e' eti.size rows wr)], [], .eptr r m i.toNat 0, []⟩ := by
  refine .pure hd fun C env M a hR h1 h2 => ?_
  have hx := hR.ev x
  rw [h1 (x, .own r m) (by simp)] at hx
  have hy := hR.ev y
  rw [h1 (y, .int k i) (by simp)] at hy
  have hy := rep_int hy
  have hr := h2 _ (.head _)
  obtain ⟨_, e2, sz', rows', wr', h3, h4, hv⟩ := hx
  have : e' = e2 ∧ eti.size = sz' ∧ rows = rows' ∧ wr = wr' := by rw [show M.obs r = some (.arr e' eti.size rows wr) from hr] at h3; simpa using h3
  obtain ⟨rfl, rfl, rfl, rfl⟩ := this
  have hv := hv hm
  unfold OwnV at hv
  cases hb : M.mu r with
  | none => rw [hb] at hv; exfalso; omega
  | some b =>
    rw [hb] at hv
    obtain ⟨cap, cur, _, _, _, _, hv⟩ := hv
    refine ⟨.pointer (some ⟨b, i.toNat * eti.size + 0, none⟩), ?_, .of (.of ⟨⟨_, rfl⟩, e', eti.size, rows, wr, hr, h4, fun _ => ⟨b, hb, rfl⟩⟩)⟩
    simp [execOp, ho, hv, hy, run_indexAt_sl hT hk hE M.w b 0 m cap k i ⟨h0, hi⟩]

/-- .. of an array object that is protected: only to be read. -/
theorem ls_index_fr {t e : TypeId} {ti eti : TI} (hT : TIok P t ti) (hk : ti.k = .slice e) (hE : TIok P e eti) {x y : Operand} (ho : o.op = .indexAddr t x y) {r : Ref} {e' sz : Nat} {rows : List (List AV)} {k : IntKind} {i : Int} {m : Nat} {row : List AV}
    (hm : rows.length = m) (h0 : 0 ≤ i) (hi : rows[i.toNat]? = some row) (hrl : row.length = eti.size) : LStep P n o ⟨[(x, .own r m), (y, .int k i)], [(r, .arr e' sz rows false)], [], .rp row 0, []⟩ := by
  refine .pure hd fun C env M a hR h1 h2 => ?_
  have hx := hR.ev x
  rw [h1 (x, .own r m) (by simp)] at hx
  have hy := hR.ev y
  rw [h1 (y, .int k i) (by simp)] at hy
  have hy := rep_int hy
  have hlt : i.toNat < rows.length := (List.getElem?_eq_some_iff.1 hi).1
  have hx := own_sl hR.mem (h2 _ (.head _)) hm hx
  generalize hax : a.eval x = vx at hx
  cases hx with
  | sl0 A cap _ => simp at hi
  | sl _ b o' cap sz cv hn hcap hsz hc hr =>
    have hs : sz = eti.size := by rw [← hrl]; exact (hsz row (List.mem_of_getElem? hi)).symm
    refine ⟨.pointer (some ⟨b, o' + i.toNat * sz, none⟩), ?_, .of (.of ⟨b, o' + i.toNat * sz, rfl, fun j z hz => ?_⟩)⟩
    · simp [execOp, ho, hax, hy, run_indexAt_sl hT hk hE M.w b o' rows.length cap k i ⟨h0, by omega⟩, hs]
    · obtain ⟨p, c⟩ := hc _ row j z hi hz
      rw [Nat.add_assoc]
      exact ⟨p, cv i.toNat j, c, hr _ row j z hi hz⟩
end

end Go.Sim
