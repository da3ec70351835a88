/- Structs and slices built; parts of slices and texts; the small operations. -/
import Derived.Test.YtkbeimibpeofbaaGreatSimK
namespace Go.Sim

theorem foldl_set (cells : Array Value) (off : Nat) (vs : List Value) : ∀ (k : Nat), off + k + vs.length ≤ cells.size →
    ((vs.zipIdx k).foldl (fun (cs : Array Value) (p : Value × Nat) => cs.setIfInBounds (off + p.2) p.1) cells).toList = splice cells.toList (off + k) vs := by
  induction vs generalizing cells with
  | nil => intro k _; simp [splice]
  | cons v vs ih =>
    intro k hk
    simp only [List.length_cons] at hk
    simp only [List.zipIdx_cons, List.foldl_cons]
    rw [ih _ (k + 1) (by simp; omega)]
    simp only [Array.toList_setIfInBounds]
    unfold splice
    have := list_seg_step cells.toList (off + k) v vs (by simp; omega)
    simp only [List.length_cons]
    rw [show off + (k + 1) = off + k + 1 from rfl]
    exact this

theorem fill_one (place : Nat → Option (Nat × Nat)) (cells : Array Value) (i : Nat) (v : Value) (rest : List (Nat × Value)) {off size : Nat} (hp : place i = some (off, size)) (hs : v.cells.size = size)
    (hl : off + size ≤ cells.size) : Instr.fill place cells ((i, v) :: rest) = Instr.fill place (splice cells.toList off v.cells.toList).toArray rest := by
  have h := foldl_set cells off v.cells.toList 0 (by simp; omega)
  simp only [Nat.add_zero] at h
  simp only [Instr.fill, hp]
  rw [if_neg (by simp [hs]; omega)]
  congr 1
  apply Array.ext'
  rw [← h]
  congr 1
  rw [← Array.foldl_toList]
  simp

/-- The parts of a struct, one behind the other. -/
def fillA (place : Nat → Option (Nat × Nat)) (cells : List AV) : List (Nat × List AV) → List AV
  | [] => cells
  | (i, xs) :: rest => match place i with
    | some (off, _) => fillA place (splice cells off xs) rest
    | none => cells

def fillOk (place : Nat → Option (Nat × Nat)) (len : Nat) : List (Nat × List AV) → Prop
  | [] => True
  | (i, xs) :: rest => (match place i with
    | some (off, size) => xs.length = size ∧ off + size ≤ len
    | none => False) ∧ fillOk place len rest

theorem splice_rep {M : Mem} {cells xs : List AV} {cs vs : List Value} {off : Nat} (hl : off + xs.length ≤ cells.length) (hcl : cs.length = cells.length) (hvl : vs.length = xs.length)
    (hc : ∀ (j : Nat) x, cells[j]? = some x → ∃ u, cs[j]? = some u ∧ RepS M x u) (hv : ∀ (j : Nat) x, xs[j]? = some x → ∃ u, vs[j]? = some u ∧ RepS M x u) :
    ∀ (j : Nat) x, (splice cells off xs)[j]? = some x → ∃ u, (splice cs off vs)[j]? = some u ∧ RepS M x u := by
  intro j x hj
  rw [splice_get _ _ _ hl] at hj
  rw [splice_get _ _ _ (by omega), hvl]
  split
  · rename_i h; rw [if_pos h] at hj; exact hv _ x hj
  · rename_i h; rw [if_neg h] at hj; exact hc _ x hj

theorem fill_rep {M : Mem} (place : Nat → Option (Nat × Nat)) : ∀ (parts : List (Nat × List AV)) (vparts : List (Nat × Value)) (cells : List AV) (cs : Array Value), cs.size = cells.length → fillOk place cells.length parts →
    parts.length = vparts.length → (∀ (j : Nat) p q, parts[j]? = some p → vparts[j]? = some q → p.1 = q.1 ∧ q.2.cells.size = p.2.length ∧ ∀ (i : Nat) x, p.2[i]? = some x → ∃ u, q.2.cells.toList[i]? = some u ∧ RepS M x u) →
    (∀ (j : Nat) x, cells[j]? = some x → ∃ u, cs.toList[j]? = some u ∧ RepS M x u) →
    ∃ cs', Instr.fill place cs vparts = some cs' ∧ cs'.size = cells.length ∧ (fillA place cells parts).length = cells.length ∧
      ∀ (j : Nat) x, (fillA place cells parts)[j]? = some x → ∃ u, cs'.toList[j]? = some u ∧ RepS M x u := by
  intro parts
  induction parts with
  | nil =>
    intro vparts cells cs hs _ hl _ hc
    have : vparts = [] := List.eq_nil_of_length_eq_zero hl.symm
    subst this
    exact ⟨cs, rfl, hs, rfl, hc⟩
  | cons p rest ih =>
    intro vparts cells cs hs hok hl hp hc
    cases vparts with
    | nil => simp at hl
    | cons q vrest =>
      obtain ⟨i, xs⟩ := p
      obtain ⟨i', v⟩ := q
      obtain ⟨h1, h2, h3⟩ := hp 0 (i, xs) (i', v) rfl rfl
      simp only at h1
      subst h1
      obtain ⟨hpl, hok'⟩ := hok
      cases hpi : place i with
      | none => rw [hpi] at hpl; exact hpl.elim
      | some os =>
        obtain ⟨off, size⟩ := os
        rw [hpi] at hpl
        obtain ⟨h4, h5⟩ := hpl
        have h2 : v.cells.size = xs.length := h2
        have hsl : (splice cells off xs).length = cells.length := splice_length _ _ _ (by omega)
        have := ih vrest (splice cells off xs) (splice cs.toList off v.cells.toList).toArray (by
            rw [List.size_toArray, splice_length _ _ _ (by simp; omega), hsl]; simpa using hs) (by rw [hsl]; exact hok') (by simpa using hl)
          (fun j p q hp' hq' => hp (j + 1) p q (by simpa using hp') (by simpa using hq'))
          (by
            intro j x hj
            simpa using splice_rep (cs := cs.toList) (vs := v.cells.toList) (cells := cells) (xs := xs) (by omega) (by simpa using hs) (by simpa using h2) hc h3 j x hj)
        obtain ⟨cs', k1, k2, k3, k4⟩ := this
        refine ⟨cs', ?_, by rw [k2, hsl], ?_, ?_⟩
        · rw [fill_one place cs i v vrest hpi (by omega) (by omega)]; exact k1
        · simp only [fillA, hpi]; rw [k3, hsl]
        · simp only [fillA, hpi]; exact k4

/-- Values that are no tuples, taken cell by cell. -/
def partsA (env : Nat → AV) : List (Nat × Operand) → Option (List (Nat × List AV))
  | [] => some []
  | (i, x) :: rest => match cellsA (evAV env x), partsA env rest with
    | some cells, some r => some ((i, cells) :: r)
    | _, _ => none

theorem partsA_get {env : Nat → AV} : ∀ {parts : List (Nat × Operand)} {ps : List (Nat × List AV)}, partsA env parts = some ps → ps.length = parts.length ∧
    ∀ (j : Nat) p, ps[j]? = some p → ∃ x, parts[j]? = some (p.1, x) ∧ cellsA (evAV env x) = some p.2 := by
  intro parts
  induction parts with
  | nil => intro ps h; simp [partsA] at h; subst h; simp
  | cons q rest ih =>
    intro ps h
    obtain ⟨i, x⟩ := q
    simp only [partsA] at h
    split at h
    · rename_i cells r h1 h2
      have := Option.some.inj h
      subst this
      obtain ⟨hl, hg⟩ := ih h2
      refine ⟨by simp [hl], fun j p hp => ?_⟩
      cases j with
      | zero => simp at hp; subst hp; exact ⟨x, by simp, h1⟩
      | succ j => simp at hp; obtain ⟨y, h3, h4⟩ := hg j p hp; exact ⟨y, by simpa using h3, h4⟩
    · simp at h

theorem partsA_congr {env env' : Nat → AV} : ∀ {parts : List (Nat × Operand)}, (∀ p ∈ parts, evAV env' p.2 = evAV env p.2) → partsA env' parts = partsA env parts := by
  intro parts
  induction parts with
  | nil => intro _; rfl
  | cons q rest ih =>
    intro h
    obtain ⟨i, x⟩ := q
    simp only [partsA]
    rw [h (i, x) (.head _), ih (fun p hp => h p (.tail _ hp))]

theorem parts_rep {C : Ctx} {n : Nat} {env : Nat → AV} {M : Mem} {a : Act} (hR : Rel C n env M a) {parts : List (Nat × Operand)} {ps : List (Nat × List AV)} (h : partsA env parts = some ps) :
    ∀ (j : Nat) p q, ps[j]? = some p → (parts.map fun (i, x) => (i, a.eval x))[j]? = some q →
      p.1 = q.1 ∧ q.2.cells.size = p.2.length ∧ ∀ (i : Nat) x, p.2[i]? = some x → ∃ u, q.2.cells.toList[i]? = some u ∧ RepS M x u := by
  intro j p q hp hq
  obtain ⟨x, h1, h2⟩ := (partsA_get h).2 j p hp
  simp only [List.getElem?_map, h1, Option.map_some, Option.some.injEq] at hq
  subst hq
  obtain ⟨hs, hrep⟩ := cellsA_rep h2 (hR.ev x)
  refine ⟨rfl, hs, fun i y hi => ?_⟩
  have hlt : i < (a.eval x).cells.size := by rw [hs]; exact (List.getElem?_eq_some_iff.1 hi).1
  exact ⟨_, by rw [Array.getElem?_toList]; exact arr_getD hlt, hrep i y hi⟩

section
variable {P : Program} {n : Nat} {o : Oper} (hd : ∀ d, o.dst = some d → d < n)
include hd

/-- T{..}, an array's literal. -/
theorem ls_build {tb : Tab} (hTb : TabOk P tb) {t : TypeId} {ti : TI} (hT : look tb t = some ti) {parts : Array (Nat × Operand)} (ho : o.op = .build t parts) (place : Nat → Option (Nat × Nat))
    (hpl : (∃ fs, ti.k = .struct fs ∧ ∃ sizes : List Nat, fs.mapM (fun p => (look tb p.2).map (·.size)) = some sizes ∧ place = fun i => ((fs.map (·.1)).zip sizes)[i]?) ∨
      (∃ m e eti, ti.k = .array m e ∧ look tb e = some eti ∧ place = fun i => some (i * eti.size, eti.size)))
    {env : Nat → AV} {ps : List (Nat × List AV)} (hps : partsA env parts.toList = some ps) (hok : fillOk place ti.size ps) :
    LStep P n o ⟨parts.toList.map (fun p => (p.2, evAV env p.2)), [], [], .agg (fillA place ti.zero ps), []⟩ := by
  refine .pure hd fun C env' M a hR h1 _ => ?_
  have hps' : partsA env' parts.toList = some ps := by
    rw [partsA_congr (env := env) (fun p hp => h1 (p.2, evAV env p.2) (List.mem_map.2 ⟨p, hp, rfl⟩))]
    exact hps
  obtain ⟨info, z, d, g1, g2, g3, g4, hu, hf, hs, hl, g9, _⟩ := hTb.at hT
  have hzl : ti.zero.length = ti.size := by
    have := congrArg List.length hl
    simpa [hs] using this.symm
  have hzr : ∀ (j : Nat) x, ti.zero[j]? = some x → ∃ u, z.cells.toList[j]? = some u ∧ RepS M x u := fun j x hj =>
    ⟨toV x, by rw [hl]; simp [hj], toV_rep (List.all_eq_true.1 g9 x (List.mem_of_getElem? hj))⟩
  obtain ⟨cs', k1, k2, k3, k4⟩ := fill_rep (M := M) place ps (parts.toList.map fun (i, x) => (i, a.eval x)) ti.zero z.cells (by rw [hs, hzl]) (by rw [hzl]; exact hok)
    (by simp [(partsA_get hps').1]) (parts_rep hR hps') hzr
  refine ⟨.agg cs', ?_, .of ⟨cs', rfl, by rw [k2, k3], fun j x hj => ?_⟩⟩
  · have hmap : (parts.map fun (i, x) => (i, a.eval x)).toList = parts.toList.map fun (i, x) => (i, a.eval x) := by simp
    have hb : P.built t (parts.map fun (i, x) => (i, a.eval x)).toList = some cs' := by
      rw [hmap]
      rcases hpl with ⟨fs, hk, sizes, hsz, rfl⟩ | ⟨m, e, eti, hk, he, rfl⟩
      · rw [hk] at hf
        obtain ⟨fields, rfl, hff⟩ := hf
        have hm : fields.toList.mapM (fun f => (P.info? f.type).map fun i => (f.offset, i.size)) = some ((fs.map (·.1)).zip sizes) := by
          subst hff
          clear hok k1 k2 k3 k4 hu hk
          revert sizes
          induction fields.toList with
          | nil => intro sizes hsz; simp at hsz; subst hsz; simp
          | cons f rest ih =>
            intro sizes hsz
            simp only [List.map_cons, List.mapM_cons, Option.bind_eq_bind, Option.pure_def] at hsz
            cases h2 : look tb f.type with
            | none => simp [h2] at hsz
            | some fti =>
              cases h3 : (rest.map fun f => (f.offset, f.type)).mapM (fun p => (look tb p.2).map (·.size)) with
              | none => simp [h2, h3] at hsz
              | some r =>
                simp [h2, h3] at hsz
                subst hsz
                obtain ⟨info, _, _, g1, _, g3, _⟩ := hTb.at h2
                simp [List.mapM_cons, g1, g3, ih r h3]
        simp only [Program.built, g1, hu, g2, hm]
        simpa using k1
      · rw [hk] at hf
        have : d = .array m e := hf
        subst this
        obtain ⟨einfo, _, _, e1, _, e3, _⟩ := hTb.at he
        simp only [Program.built, g1, hu, g2, e1, e3]
        exact k1
    have := run_build M.w t (parts.map fun (i, x) => (i, a.eval x)) cs' hb
    simp only [execOp, ho, Sem.run_bind, this, Result.andThen_ok, Sem.run_pure]
  · obtain ⟨u, hu2, hr⟩ := k4 j x hj
    have : cs'.getD j undef = u := by
      rw [Array.getElem?_toList] at hu2
      simp [Array.getD_eq_getD_getElem?, hu2]
    rwa [this]
end

end Go.Sim
