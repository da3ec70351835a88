/- Loads, stores, new variables; addresses. -/
import Derived.Test.YtkbeimibpeofbaaGreatSimH
namespace Go.Sim

theorem TIok.size {P : Program} {t : TypeId} {ti : TI} (h : TIok P t ti) (w : World) : (sizeOf t).run P w = .ok ti.size w := by
  obtain ⟨info, z, d, h1, _, h3, _⟩ := h
  simp [sizeOf, typeInfo, h1, h3]

theorem TIok.und {P : Program} {t : TypeId} {ti : TI} (h : TIok P t ti) : ∃ d, P.underlying t = some d ∧ ti.k.fits d := by
  obtain ⟨info, z, d, _, _, _, _, h5, h6, _⟩ := h
  exact ⟨d, h5, h6⟩

def descAgg : TypeDesc → Bool
  | .struct _ => true
  | .array _ _ => true
  | _ => false

theorem fits_agg {k : TK} {d : TypeDesc} (h : k.fits d) : descAgg d = k.agg := by
  cases k with
  | other => cases d <;> first | rfl | exact h.elim
  | struct fs => obtain ⟨f, rfl, _⟩ := h; rfl
  | _ => have : d = _ := h; subst this; rfl

theorem TIok.isAgg {P : Program} {t : TypeId} {ti : TI} (h : TIok P t ti) (w : World) : (Go.isAgg t).run P w = .ok ti.k.agg w := by
  obtain ⟨d, h1, h2⟩ := h.und
  rw [← fits_agg h2]
  simp only [Go.isAgg, Sem.run_bind, run_underlying h1, Result.andThen_ok]
  cases d <;> rfl

theorem TIok.zero {P : Program} {t : TypeId} {ti : TI} (h : TIok P t ti) (w : World) : ∃ z, (zeroValue t).run P w = .ok z w ∧ z.cells.size = ti.size ∧ z.cells.toList = ti.zero.map toV ∧
    (∀ (j : Nat) x, ti.zero[j]? = some x → plainZ x = true) ∧ ti.zero.length = ti.size := by
  obtain ⟨info, z, d, h1, h2, _, _, _, _, h7, h8, h9, _⟩ := h
  refine ⟨z, by simp [zeroValue, typeInfo, h1, h2], h7, h8, fun j x hj => ?_, ?_⟩
  · exact List.all_eq_true.1 h9 x (List.mem_of_getElem? hj)
  · have := congrArg List.length h8
    simpa [h7] using this.symm

theorem RepC.toS {M : Mem} {x : AV} {v : Value} (h : RepC M.Pr M.w x v) : RepS M x v := by
  cases h with
  | sl0 A cap hcap => exact .sl0 A cap hcap
  | sl rows b o cap sz cv hn hcap hsz hc hr => exact .sl rows b o cap sz cv hn hcap hsz hc hr
  | _ => rfl

def segV (ti : TI) (cells : List AV) (off : Nat) : AV :=
  if ti.k.agg then .agg ((cells.drop off).take ti.size) else (cells.drop off).headD .junk

theorem addr_add (b o j : Nat) : (⟨b, o, none⟩ : Addr).add j = ⟨b, o + j, none⟩ := Addr.add_lit b o j

/-- A variable is read. -/
theorem run_loadVar_seg {P : Program} {M : Mem} {t : TypeId} {ti : TI} (hT : TIok P t ti) (b o : Nat) (cells : List AV) (off : Nat) (hl : off + ti.size ≤ cells.length) (h0 : 0 < ti.size)
    (hc : ∀ j x, cells[off + j]? = some x → j < ti.size → ∃ u, M.w.cell? ⟨b, o + j, none⟩ = some u ∧ RepS M x u) :
    ∃ v, (loadVar t ⟨b, o, none⟩).run P M.w = .ok v M.w ∧ RepA M (segV ti cells off) v := by
  have hex : ∀ j, j < ti.size → ∃ x, cells[off + j]? = some x := fun j hj => ⟨cells[off + j], List.getElem?_eq_getElem (by omega)⟩
  let us : List Value := (List.range ti.size).map fun j => (M.w.cell? ⟨b, o + j, none⟩).getD undef
  have hus : ∀ j, j < ti.size → us[j]? = some ((M.w.cell? ⟨b, o + j, none⟩).getD undef) := fun j hj => by simp [us, hj]
  have hcell : ∀ j v, us[j]? = some v → M.w.cell? ((⟨b, o, none⟩ : Addr).add j) = some v := by
    intro j v hv
    have hj : j < ti.size := by have := (List.getElem?_eq_some_iff.1 hv).1; simpa [us] using this
    obtain ⟨x, hx⟩ := hex j hj
    obtain ⟨u, hu, _⟩ := hc j x hx hj
    rw [hus j hj, hu] at hv
    rw [addr_add, hu]
    exact hv
  have hul : us.length = ti.size := by simp [us]
  cases hk : ti.k.agg with
  | true =>
    refine ⟨.agg us.toArray, ?_, ?_⟩
    · have := run_loadCells_list (P := P) M.w ⟨b, o, none⟩ us hcell
      rw [hul] at this
      simp [loadVar, hT.isAgg, hk, hT.size, this]
    · simp only [segV, hk, if_true]
      refine ⟨us.toArray, rfl, by simp [hul]; omega, fun j x hj => ?_⟩
      rw [List.getElem?_take] at hj
      split at hj
      · rename_i hjs
        rw [List.getElem?_drop] at hj
        obtain ⟨u, hu, hr⟩ := hc j x hj hjs
        rw [getD_toArray, hus j hjs, hu]
        exact hr
      · simp at hj
  | false =>
    obtain ⟨x, hx⟩ := hex 0 h0
    obtain ⟨u, hu, hr⟩ := hc 0 x hx h0
    refine ⟨u, ?_, ?_⟩
    · simp only [Nat.add_zero] at hu
      simp [loadVar, hT.isAgg, hk, hu]
    · simp only [segV, hk, Bool.false_eq_true, if_false]
      have : (cells.drop off).headD .junk = x := by
        rw [List.headD_eq_head?_getD, List.head?_drop]
        simp only [Nat.add_zero] at hx
        simp [hx]
      rw [this]
      exact .of hr

theorem execOp_load {P : Program} {o : Oper} {t : TypeId} {x : Operand} (ho : o.op = .load t x) {a : Act} {b off : Nat} (hx : a.eval x = .pointer (some ⟨b, off, none⟩)) {w : World} {v : Value}
    (h : (loadVar t ⟨b, off, none⟩).run P w = .ok v w) : (execOp a.eval o).run P w = .ok (.value v) w := by
  simp [execOp, ho, Instr.loadAt, Instr.sureAddr, hx, h]

section
variable {P : Program} {n : Nat} {o : Oper} (hd : ∀ d, o.dst = some d → d < n)
include hd

theorem ls_load_rp {t : TypeId} {ti : TI} (hT : TIok P t ti) {x : Operand} (ho : o.op = .load t x) {cells : List AV} {off : Nat} (hl : off + ti.size ≤ cells.length) (h0 : 0 < ti.size) :
    LStep P n o ⟨[(x, .rp cells off)], [], [], segV ti cells off, []⟩ := by
  refine .pure hd fun C env M a hR h1 _ => ?_
  have hx := hR.ev x
  rw [h1 _ (.head _)] at hx
  obtain ⟨b, o', hv, hc⟩ := hx
  obtain ⟨v, hrun, hrep⟩ := run_loadVar_seg (M := M) hT b (o' + off) cells off hl h0 (fun j y hy _ => by
    obtain ⟨p, cv, h2, h3⟩ := hc _ y hy
    exact ⟨cv, by rw [← h2]; congr 2; omega, h3.toS⟩)
  exact ⟨v, execOp_load ho hv hrun, .of hrep⟩

theorem ls_load_ptr {t : TypeId} {ti : TI} (hT : TIok P t ti) {x : Operand} (ho : o.op = .load t x) {r : Ref} {cells : List AV} {off : Nat} (hl : off + ti.size ≤ cells.length) (h0 : 0 < ti.size) :
    LStep P n o ⟨[(x, .ptr r off)], [(r, .box cells)], [], segV ti cells off, []⟩ := by
  refine .pure hd fun C env M a hR h1 h2 => ?_
  have hx := hR.ev x
  rw [h1 _ (.head _)] at hx
  have hr := h2 _ (.head _)
  obtain ⟨cells', b, h3, _, hm, hv⟩ := hx
  obtain ⟨b', cs, T, g1, g2, g3, g4, g5⟩ := hR.mem.obj r _ hr
  have : b' = b := Option.some.inj (g1.symm.trans hm)
  subst this
  obtain ⟨v, hrun, hrep⟩ := run_loadVar_seg (M := M) hT b' off cells off hl h0 (fun j y hy hj => by
    refine ⟨cs.getD (off + j) undef, ?_, g4 _ y hy⟩
    rw [cell_of_row M.w b' _ cs T (0, 0) g2]
    exact arr_getD (by rw [g3]; omega))
  exact ⟨v, execOp_load ho hv hrun, .of hrep⟩

theorem ls_load_eptr {t : TypeId} {ti : TI} (hT : TIok P t ti) {x : Operand} (ho : o.op = .load t x) {r : Ref} {e sz : Nat} {rows : List (List AV)} {wr : Bool} {i off : Nat} {row : List AV}
    (hi : rows[i]? = some row) (hl : off + ti.size ≤ row.length) (h0 : 0 < ti.size) :
    LStep P n o ⟨[(x, .eptr r rows.length i off)], [(r, .arr e sz rows wr)], [], segV ti row off, []⟩ := by
  refine .pure hd fun C env M a hR h1 h2 => ?_
  have hx := hR.ev x
  rw [h1 _ (.head _)] at hx
  have hr := h2 _ (.head _)
  obtain ⟨_, e', sz', rows', wr', h3, _, hv⟩ := hx
  have : e = e' ∧ sz = sz' ∧ rows = rows' ∧ wr = wr' := by rw [show M.obs r = some (.arr e sz rows wr) from hr] at h3; simpa using h3
  obtain ⟨rfl, rfl, rfl, rfl⟩ := this
  obtain ⟨b, hm, hv⟩ := hv rfl
  obtain ⟨g0, g1, g2⟩ := hR.mem.obj r _ hr
  rw [show M.mu r = some b from hm] at g2
  obtain ⟨cs, cap, g3, g4, g5, g6, g7, g8⟩ := g2
  have hrl : row.length = sz := g1 row (List.mem_of_getElem? hi)
  have hin : i < rows.length := (List.getElem?_eq_some_iff.1 hi).1
  obtain ⟨v, hrun, hrep⟩ := run_loadVar_seg (M := M) hT b (i * sz + off) row off hl h0 (fun j y hy hj => by
    have hlt := mul_lt_mul_row (j := off + j) (sz := sz) hin (by omega)
    have hle : rows.length * sz ≤ cs.size := by rw [g4]; exact Nat.mul_le_mul_right _ g5
    refine ⟨cs.getD (i * sz + (off + j)) undef, ?_, ?_⟩
    · rw [cell_of_row M.w b _ cs e (0, 0) g3, Nat.add_assoc]
      exact arr_getD (by omega)
    · exact (g7 i row _ y hi hy).toS)
  exact ⟨v, execOp_load ho hv hrun, .of hrep⟩
end

end Go.Sim
