/- A call as a step of its caller. -/
import Derived.Test.YtkbeimibpeofbaaGreatSimN
namespace Go.Sim

/-- Nothing of memory is told by it. -/
def scalar : AV → Bool
  | .bool _ => true
  | .int _ _ => true
  | .str _ => true
  | _ => false
def scalarV : AV → Bool
  | .tup vs => vs.all scalar
  | x => scalar x

theorem scalar_rep {M M' : Mem} {x : AV} (h : scalar x = true) {v : Value} (hv : RepA M x v) : RepA M' x v := by
  cases x <;> first | exact hv | simp [scalar] at h

theorem scalarV_rep {M M' : Mem} {x : AV} (h : scalarV x = true) {v : Value} (hv : RepV M x v) : RepV M' x v := by
  rcases hv.split with ⟨vs, rfl⟩ | ha
  · obtain ⟨us, h1, h2, h3⟩ := hv
    refine ⟨us, h1, h2, fun j x hj => scalar_rep ?_ (h3 j x hj)⟩
    have : vs.all scalar = true := h
    exact List.all_eq_true.1 this x (List.mem_of_getElem? hj)
  · cases x <;> first | exact hv | exact False.elim ha | (simp [scalarV, scalar] at h; done)

/-- All rows of arrays are protected for the time of a call. -/
def lentPr (M : Mem) (b o : Nat) : Prop := M.Pr b o ∨ ∃ r e sz rows wr, M.obs r = some (.arr e sz rows wr) ∧ M.mu r = some b ∧ o < rows.length * sz

theorem lent_prot {C : Ctx} {M : Mem} (hM : MemOk C M) {b o : Nat} (h : lentPr M b o) : ∃ v, M.w.cell? ⟨b, o, none⟩ = some v := by
  rcases h with h | ⟨r, e, sz, rows, wr, hr, hb, ho⟩
  · exact hM.prot b o h
  · obtain ⟨_, _, hm⟩ := hM.obj r _ hr
    rw [hb] at hm
    obtain ⟨cs, cap, h1, h2, h3, _⟩ := hm
    rw [cell_of_row M.w b _ cs e (0, 0) h1]
    exact ⟨_, arr_getD (by rw [h2]; exact Nat.lt_of_lt_of_le ho (Nat.mul_le_mul_right _ h3))⟩

/-- A function that answers a plain value only reads. -/
theorem callS {P : Program} {C : Ctx} {M : Mem} (hM : MemOk C M) {f : FuncId} {args : List AV} {res : AV} (hcall : Does P f args [] res []) (hsc : scalarV res = true) (vs : List Value) (hvl : vs.length = args.length)
    (hvs : ∀ Mc : Mem, Mc.Pr = lentPr M → Mc.w = M.w → ∀ (j : Nat) x v, args[j]? = some x → vs[j]? = some v → RepA Mc x v) :
    Calls P f vs.toArray M.w fun e w' => ∃ v M', e = .returned v ∧ M'.w = w' ∧ M'.obs = M.obs ∧ Stab M M' ∧ MemOk C M' ∧ RepV M' res v := by
  let Mc : Mem := ⟨obsOf [], fun _ => none, lentPr M, M.w⟩
  have hnone : ∀ q, Mc.obs q = none := fun q => by cases q <;> simp [Mc, obsOf]
  have hMc : MemOk (cctx Mc 0) Mc :=
    ⟨fun q o hq => by rw [hnone] at hq; simp at hq, fun q _ _ hq => absurd (hnone q) hq, fun q _ hq => absurd (hnone q) hq, fun b hb => .inr hb, fun b _ => rfl, Nat.le_refl _, rfl, rfl, rfl,
      fun b o h => lent_prot hM h, Stab.refl _, fun b o h => .inl h⟩
  refine Calls.mono (hcall.run Mc vs rfl hMc hvl (hvs Mc rfl rfl)) ?_
  rintro e w' ⟨v, M2, rfl, rfl, _, hM2, hv⟩
  have hfr : ∀ b, b < M.w.heap.size → M2.w.heap[b]? = M.w.heap[b]? := fun b hb => hM2.frame b (by
    rintro (⟨j, hj, _⟩ | hge)
    · exact absurd hj (Nat.not_lt_zero _)
    · have hge : M.w.heap.size ≤ b := hge
      omega)
  have hcell : ∀ b o, M.Pr b o → M2.w.cell? ⟨b, o, none⟩ = M.w.cell? ⟨b, o, none⟩ := fun b o h => (hM2.st.pr b o (.inl h)).2
  let M' : Mem := ⟨M.obs, M.mu, M.Pr, M2.w⟩
  have hst : Stab M M' := by
    refine ⟨fun b o h => ⟨h, hcell b o h⟩, fun r cells hr => ⟨cells, hr, rfl, rfl⟩, fun r e sz rows wr hr => ⟨rows, wr, hr, Nat.le_refl _, fun _ => ⟨rfl, fun b cur hb hc => ⟨cur, ?_, rfl⟩⟩⟩⟩
    exact (hfr b (hM.block_lt hr hb)).trans hc
  refine ⟨v, M', rfl, rfl, rfl, hst, ⟨fun q o hq => hst.repO rfl (fun b hb => hfr b (hM.block_lt hq hb)) (fun _ _ _ => Iff.rfl) (hM.obj q o hq), hM.inj, hM.own, hM.new, fun b hb => ?_,
    Nat.le_trans hM.le hM2.le, hM2.os.trans hM.os, hM2.tape.trans hM.tape, hM2.output.trans hM.output, fun b o h => ?_, hM.st.trans hst, hM.fresh⟩, scalarV_rep hsc hv⟩
  · have hlt : b < C.M0.w.heap.size := Nat.lt_of_not_le fun hge => hb (hM.new b hge)
    exact (hfr b (Nat.lt_of_lt_of_le hlt hM.le)).trans (hM.frame b hb)
  · obtain ⟨v, hv⟩ := hM.prot b o h
    exact ⟨v, (hcell b o h).trans hv⟩

/-! ### What is handed to a callee -/
def argS (obs : Ref → Option Ob) (G : List Ref) (br : Bool) : AV → AV
  | .own r n => if br then renS (sig G) (.own r n) else clS obs (.own r n)
  | .nils => if br then .nils else .sl []
  | x => renS (sig G) x
def argA (obs : Ref → Option Ob) (G : List Ref) (br : Bool) : AV → AV
  | .agg cells => .agg (cells.map (argS obs G br))
  | .junk => .junk
  | .tup _ => .junk
  | x => argS obs G br x

/-- sm: the callee answers a plain value, so what may be written is lent, too. -/
def argOkS (obs : Ref → Option Ob) (br sm : Bool) : AV → Prop
  | .own r n => br = true ∨ match obs r with
    | some (.arr _ _ rows wr) => rows.length = n ∧ (sm = true ∨ wr = false)
    | _ => False
  | _ => True
def argOkA (obs : Ref → Option Ob) (br sm : Bool) : AV → Prop
  | .agg cells => allP (argOkS obs br sm) cells
  | .tup _ => False
  | x => argOkS obs br sm x

def refsA (obs : Ref → Option Ob) : AV → List (Ref × Ob)
  | .agg cells => cells.flatMap (refs1 obs)
  | x => refs1 obs x

theorem argS_G {C : Ctx} {M Mc : Mem} (hM : MemOk C M) {obs : Ref → Option Ob} {G : List Ref} (hS : RStab (sig G) M Mc) (hP : Mc.Pr = M.Pr) (hw : Mc.w = M.w) {br : Bool} {x : AV} (h : argOkS obs br false x)
    (hR : ∀ p ∈ refs1 obs x, M.obs p.1 = some p.2) {v : Value} (hv : RepS M x v) : RepS Mc (argS obs G br x) v := by
  cases x with
  | own r n =>
    cases br with
    | true => exact hS.repS hv
    | false =>
      have hc : clOk obs (.own r n) := by
        simp only [argOkS, Bool.false_eq_true, false_or] at h
        simp only [clOk]
        cases ho : obs r with
        | none => rw [ho] at h; exact h.elim
        | some ob =>
          rw [ho] at h
          cases ob with
          | box cells => exact h.elim
          | arr e sz rows wr => exact h
      have := clS_rep hM hc hR hv
      rw [← hP, ← hw] at this
      exact this.toS
  | nils =>
    cases br with
    | true => exact hv
    | false => cases hv; exact RepC.toS (.sl0 _ _ (by simp [maxLen]))
  | _ => exact hS.repS hv

theorem argA_of {obs : Ref → Option Ob} {G : List Ref} {br : Bool} {M Mc : Mem} {x : AV} {v : Value} (hx : RepS M x v) (h : RepS Mc (argS obs G br x) v) : RepA Mc (argA obs G br x) v := by
  cases x <;> first | exact .of h | trivial | exact False.elim hx

theorem argA_G {C : Ctx} {M Mc : Mem} (hM : MemOk C M) {obs : Ref → Option Ob} {G : List Ref} (hS : RStab (sig G) M Mc) (hP : Mc.Pr = M.Pr) (hw : Mc.w = M.w) {br : Bool} {x : AV} (h : argOkA obs br false x)
    (hR : ∀ p ∈ refsA obs x, M.obs p.1 = some p.2) {v : Value} (hv : RepV M x v) : RepA Mc (argA obs G br x) v := by
  rcases hv.split with ⟨vs, rfl⟩ | hv
  · exact h.elim
  · rcases hv.split with rfl | ⟨cells, rfl⟩ | hs
    · trivial
    · obtain ⟨cs, h1, h2, h3⟩ := hv
      refine ⟨cs, h1, by simpa using h2, fun j y hj => ?_⟩
      simp only [List.getElem?_map, Option.map_eq_some_iff] at hj
      obtain ⟨z, hz, rfl⟩ := hj
      have hm := List.mem_of_getElem? hz
      exact argS_G hM hS hP hw (allP_mem h z hm) (fun p hp => hR p (List.mem_flatMap.2 ⟨z, hm, hp⟩)) (h3 j z hz)
    · refine argA_of hs (argS_G hM hS hP hw ?_ ?_ hs)
      · cases x <;> first | exact h | exact False.elim hs
      · cases x <;> first | exact hR | exact False.elim hs

theorem argS_S {C : Ctx} {M Mc : Mem} (hM : MemOk C M) {obs : Ref → Option Ob} (hP : Mc.Pr = lentPr M) (hw : Mc.w = M.w) {x : AV} (h : argOkS obs false true x)
    (hR : ∀ p ∈ refs1 obs x, M.obs p.1 = some p.2) {v : Value} (hv : RepS M x v) : RepS Mc (argS obs [] false x) v := by
  have hone := hv.one
  have hmono : ∀ {y : AV} {u : Value}, RepC M.Pr M.w y u → RepC Mc.Pr Mc.w y u := fun hy => hy.mono fun b o hp => ⟨by rw [hP]; exact .inl hp, by rw [hw]⟩
  cases x with
  | own r n =>
    simp only [argOkS, Bool.false_eq_true, false_or] at h
    show RepS Mc (clS obs (.own r n)) v
    simp only [clS]
    cases ho : obs r with
    | none => rw [ho] at h; exact h.elim
    | some ob =>
      rw [ho] at h
      cases ob with
      | box cells => exact h.elim
      | arr e sz rows wr =>
        obtain ⟨hn, _⟩ := h
        have hr := hR (r, .arr e sz rows wr) (by simp [refs1, ho])
        obtain ⟨_, e', sz', rows', wr', h3, _, hvv⟩ := hv
        have : e = e' ∧ sz = sz' ∧ rows = rows' ∧ wr = wr' := by rw [show M.obs r = some (.arr e sz rows wr) from hr] at h3; simpa using h3
        obtain ⟨rfl, rfl, rfl, rfl⟩ := this
        have hvv := hvv hn
        obtain ⟨h0, hrows, hm⟩ := hM.obj r _ hr
        unfold OwnV at hvv
        cases hb : M.mu r with
        | none =>
          rw [hb] at hvv hm
          obtain ⟨rfl, rfl⟩ := hvv
          have hm : rows = [] := hm
          subst hm
          exact RepC.toS (.sl0 _ _ (by simp [maxLen]))
        | some b =>
          rw [hb] at hvv hm
          obtain ⟨cap, cur, g1, g2, g3, g4, rfl⟩ := hvv
          obtain ⟨cs, cap', h1, h2, h3, h4, h5, h6⟩ := hm
          have : cs = cur := by rw [h1] at g1; simpa using g1
          subst this
          subst hn
          refine RepC.toS (.sl rows b 0 cap sz (fun i j => cs.getD (i * sz + j) undef) g3 g4 hrows (fun i row j x hi hj => ?_) (fun i row j x hi hj => hmono (h5 i row j x hi hj)))
          have hin : i < rows.length := (List.getElem?_eq_some_iff.1 hi).1
          have hjl : j < sz := by have := (List.getElem?_eq_some_iff.1 hj).1; rw [hrows row (List.mem_of_getElem? hi)] at this; exact this
          have hlt := mul_lt_mul_row hin hjl
          rw [Nat.zero_add]
          refine ⟨by rw [hP]; exact .inr ⟨r, e, sz, rows, wr, hr, hb, hlt⟩, ?_⟩
          rw [hw, cell_of_row M.w b _ cs e (0, 0) h1]
          exact arr_getD (by rw [g2]; exact Nat.lt_of_lt_of_le hlt (Nat.mul_le_mul_right _ g3))
  | nils => cases hv; exact RepC.toS (.sl0 _ _ (by simp [maxLen]))
  | sl rows => exact hmono (y := .sl rows) hv
  | rp cells off =>
    obtain ⟨b, o, hv, hc⟩ := hv
    refine ⟨b, o, hv, fun j x hj => ?_⟩
    obtain ⟨p, cv, c, r⟩ := hc j x hj
    exact ⟨by rw [hP]; exact .inl p, cv, by rw [hw]; exact c, hmono r⟩
  | ptr r off => exact hone
  | eptr r n i off => exact hone
  | clo f caps =>
    show RepS Mc (renS (sig []) (.clo f caps)) v
    simp only [renS]
    cases caps with
    | nil =>
      obtain ⟨bs, hv, hl, _⟩ := hv
      exact ⟨bs, hv, hl, fun j r hj => by simp at hj⟩
    | cons r rs => exact hone
  | _ => exact hv

theorem argA_S {C : Ctx} {M Mc : Mem} (hM : MemOk C M) {obs : Ref → Option Ob} (hP : Mc.Pr = lentPr M) (hw : Mc.w = M.w) {x : AV} (h : argOkA obs false true x)
    (hR : ∀ p ∈ refsA obs x, M.obs p.1 = some p.2) {v : Value} (hv : RepV M x v) : RepA Mc (argA obs [] false x) v := by
  rcases hv.split with ⟨vs, rfl⟩ | hv
  · exact h.elim
  · rcases hv.split with rfl | ⟨cells, rfl⟩ | hs
    · trivial
    · obtain ⟨cs, h1, h2, h3⟩ := hv
      refine ⟨cs, h1, by simpa using h2, fun j y hj => ?_⟩
      simp only [List.getElem?_map, Option.map_eq_some_iff] at hj
      obtain ⟨z, hz, rfl⟩ := hj
      have hm := List.mem_of_getElem? hz
      exact argS_S hM hP hw (allP_mem h z hm) (fun p hp => hR p (List.mem_flatMap.2 ⟨z, hm, hp⟩)) (h3 j z hz)
    · refine argA_of hs (argS_S hM hP hw ?_ ?_ hs)
      · cases x <;> first | exact h | exact False.elim hs
      · cases x <;> first | exact hR | exact False.elim hs

end Go.Sim
