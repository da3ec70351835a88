/- Slices built and made; parts of slices and texts; the small operations. -/
import Derived.Test.YtkbeimibpeofbaaGreatSimL
namespace Go.Sim

def seqFrom : Nat → List (Nat × List AV) → Prop
  | _, [] => True
  | k, (i, _) :: rest => i = k ∧ seqFrom (k + 1) rest

theorem fillA_seq (sz : Nat) : ∀ (ps : List (Nat × List AV)) (k : Nat) (cells : List AV), seqFrom k ps → (∀ p ∈ ps, p.2.length = sz) → (k + ps.length) * sz ≤ cells.length →
    ∀ i j, j < sz → (fillA (fun i => some (i * sz, sz)) cells ps)[i * sz + j]? = if k ≤ i ∧ i < k + ps.length then (ps[i - k]?).bind (fun p => p.2[j]?) else cells[i * sz + j]? := by
  intro ps
  induction ps with
  | nil =>
    intro k cells _ _ _ i j _
    rw [if_neg (by simp only [List.length_nil, Nat.add_zero]; omega)]
    rfl
  | cons p rest ih =>
    intro k cells hs hl hlen i j hj
    obtain ⟨i0, xs⟩ := p
    obtain ⟨rfl, hs⟩ := hs
    have hxl : xs.length = sz := hl (i0, xs) (.head _)
    have hlen' : i0 * sz + sz ≤ cells.length := by
      have : (i0 + 1) * sz ≤ (i0 + ((i0, xs) :: rest).length) * sz := Nat.mul_le_mul_right _ (by simp)
      rw [Nat.add_mul, Nat.one_mul] at this
      omega
    have hsl : (splice cells (i0 * sz) xs).length = cells.length := splice_length _ _ _ (by omega)
    simp only [fillA]
    rw [ih (i0 + 1) _ hs (fun p hp => hl p (.tail _ hp)) (by rw [hsl]; simp only [List.length_cons] at hlen; rw [show i0 + 1 + rest.length = i0 + (rest.length + 1) from by omega]; exact hlen) i j hj]
    by_cases h1 : i0 + 1 ≤ i ∧ i < i0 + 1 + rest.length
    · rw [if_pos h1, if_pos (by simp; omega)]
      rw [show i - i0 = (i - (i0 + 1)) + 1 from by omega, List.getElem?_cons_succ]
    · rw [if_neg h1, splice_get _ _ _ (by omega)]
      by_cases h2 : i = i0
      · subst h2
        rw [if_pos (by omega), if_pos (by simp)]
        simp
      · have hne : ¬ (i0 * sz ≤ i * sz + j ∧ i * sz + j < i0 * sz + xs.length) := by
          intro hc
          have := row_inj (i := i) (i' := i0) (j := j) (j' := i * sz + j - i0 * sz) hj (by omega) (by omega)
          exact h2 this.1
        rw [if_neg hne, if_neg (by simp; omega)]

theorem run_buildSlice_at {P : Program} (w : World) {t e : TypeId} {info : TypeInfo} {z : Value} {size len : Nat} (hu : P.underlying t = some (.slice e)) (g1 : P.info? e = some info) (g2 : info.zero = some z)
    (g3 : info.size = size) (h0 : 0 < size) (hsmall : len * size ≤ 16777216) {parts : Array (Nat × Value)} {cs' : Array Value}
    (hf : Instr.fill (fun i => some (i * size, size)) ((Array.range (len * size)).map fun j => z.cells[j % z.cells.size]!) parts.toList = some cs') :
    (Instr.buildSlice t len parts).run P w = .ok (.slice (some ⟨w.heap.size, 0, none⟩) len len) (w.alloc (.cells cs' e)) := by
  subst g3
  have hnot : ¬ (16777216 < len * info.size) := by omega
  have hr : ∀ f : Nat → Value, Array.map f (Array.range 0) = #[] := fun f => by apply Array.eq_empty_of_size_eq_zero; simp
  by_cases hz : len = 0
  · subst hz
    have hf' : Instr.fill (fun i => some (i * info.size, info.size)) #[] parts.toList = some cs' := by rw [Nat.zero_mul, hr] at hf; exact hf
    simp [Instr.buildSlice, run_underlying hu, sizeOf, typeInfo, g1, newRow, hr, hf']
  · have hne : ¬ len * info.size = 0 := Nat.mul_ne_zero hz (by omega)
    simp only [Instr.buildSlice, Sem.run_bind, run_underlying hu, Result.andThen_ok, sizeOf, typeInfo, zeroValue]
    simp [g1, g2, hnot, hne, hf, newRow]

section
variable {P : Program} {n : Nat} {o : Oper} (hd : ∀ d, o.dst = some d → d < n)
include hd

theorem ls_buildSlice {t e : TypeId} {ti eti : TI} (hT : TIok P t ti) (hk : ti.k = .slice e) (hE : TIok P e eti) (h0 : 0 < eti.size) {len : Nat} {parts : Array (Nat × Operand)} (ho : o.op = .buildSlice t len parts)
    (hlen : len = parts.toList.length) (hsmall : len * eti.size ≤ 16777216) {env : Nat → AV} {ps : List (Nat × List AV)} (hps : partsA env parts.toList = some ps) (hseq : seqFrom 0 ps) (hsz : ∀ p ∈ ps, p.2.length = eti.size)
    (obs : Ref → Option Ob) (hcl : allP (fun p : Nat × List AV => allP (clOk obs) p.2) ps) (R : List (Ref × Ob)) (hRr : ∀ p ∈ ps.flatMap (fun p => p.2.flatMap (refs1 obs)), p ∈ R) (r : Ref) (wr : Bool) :
    LStep P n o ⟨parts.toList.map (fun p => (p.2, evAV env p.2)), R, [r], .own r len, [(r, .arr e eti.size (ps.map fun p => p.2.map (clS obs)) wr)]⟩ := by
  refine .val hd fun C env' M a hR h1 h2 h3 => ?_
  have hps' : partsA env' parts.toList = some ps := by
    rw [partsA_congr (env := env) (fun p hp => h1 (p.2, evAV env p.2) (List.mem_map.2 ⟨p, hp, rfl⟩))]
    exact hps
  obtain ⟨d, hu, hf⟩ := hT.und
  rw [hk] at hf
  have : d = .slice e := hf
  subst this
  have hpl : ps.length = len := by rw [(partsA_get hps').1, hlen]
  obtain ⟨info, z, d, g1, g2, g3, g4, _, _, hs, hl, g9⟩ := hE
  have hzn : ∀ j, j < z.cells.size → (z.cells[j]!).oneCell' = true := by
    intro j hj
    have h : z.cells.toList[j]? = some (z.cells[j]!) := by
      rw [Array.getElem?_toList, getElem!_pos z.cells j hj]
      exact Array.getElem?_eq_getElem hj
    rw [hl] at h
    simp only [List.getElem?_map, Option.map_eq_some_iff] at h
    obtain ⟨x, _, hx⟩ := h
    rw [← hx]
    cases x <;> rfl
  let cs0 : Array Value := (Array.range (len * eti.size)).map fun j => z.cells[j % z.cells.size]!
  have hcs0 : cs0.size = (List.replicate (len * eti.size) AV.junk).length := by simp [cs0]
  obtain ⟨cs', k1, k2, k3, k4⟩ := fill_rep (M := M) (fun i => some (i * eti.size, eti.size)) ps (parts.toList.map fun (i, x) => (i, a.eval x)) (List.replicate (len * eti.size) AV.junk) cs0 hcs0
    (by
      have key : ∀ (qs : List (Nat × List AV)) (k : Nat), seqFrom k qs → (∀ p ∈ qs, p.2.length = eti.size) → k + qs.length ≤ len → fillOk (fun i => some (i * eti.size, eti.size)) (List.replicate (len * eti.size) AV.junk).length qs := by
        intro qs
        induction qs with
        | nil => intro k _ _ _; trivial
        | cons q qs ih =>
          intro k hq hql hk
          obtain ⟨i, xs⟩ := q
          obtain ⟨rfl, hq⟩ := hq
          refine ⟨⟨hql (i, xs) (.head _), ?_⟩, ih (i + 1) hq (fun p hp => hql p (.tail _ hp)) (by simp at hk; omega)⟩
          simp only [List.length_replicate]
          have : (i + 1) * eti.size ≤ len * eti.size := Nat.mul_le_mul_right _ (by simp at hk; omega)
          rw [Nat.add_mul, Nat.one_mul] at this
          exact this
      exact key ps 0 hseq hsz (by omega))
    (by simp [(partsA_get hps').1]) (parts_rep hR hps') (fun j x hj => by
      rw [List.getElem?_replicate] at hj
      split at hj
      · rename_i hjl
        have := Option.some.inj hj
        subst this
        have hz0 : 0 < z.cells.size := by omega
        refine ⟨z.cells[j % z.cells.size]!, by simp [cs0, hjl], hzn _ (Nat.mod_lt _ hz0)⟩
      · simp at hj)
  simp only [List.length_replicate] at k2 k3
  have hrowl : ∀ row ∈ ps.map (fun p => p.2.map (clS obs)), row.length = eti.size := by
    intro row hr
    obtain ⟨p, hp, rfl⟩ := List.mem_map.1 hr
    simpa using hsz p hp
  obtain ⟨m1, m2, m3⟩ := alloc_arr hR.mem (h3 r (.head _)) e eti.size (ps.map fun p => p.2.map (clS obs)) wr cs' len h0 hrowl k2 (by simp [hpl]) (by
      simp only [maxLen]
      have := Nat.le_mul_of_pos_right len h0
      omega) (fun i row j x hi hj => by
    simp only [List.getElem?_map, Option.map_eq_some_iff] at hi
    obtain ⟨p, hp, rfl⟩ := hi
    simp only [List.getElem?_map, Option.map_eq_some_iff] at hj
    obtain ⟨y, hy, rfl⟩ := hj
    have hpm := List.mem_of_getElem? hp
    have hym := List.mem_of_getElem? hy
    have hil : i < ps.length := (List.getElem?_eq_some_iff.1 hp).1
    have hjl : j < eti.size := by rw [← hsz p hpm]; exact (List.getElem?_eq_some_iff.1 hy).1
    have hget := fillA_seq eti.size ps 0 (List.replicate (len * eti.size) AV.junk) hseq hsz (by simp [hpl]) i j hjl
    rw [if_pos (by omega), Nat.sub_zero, hp, Option.bind_some, hy] at hget
    obtain ⟨u, hu2, hr⟩ := k4 _ y hget
    have : cs'.getD (i * eti.size + j) undef = u := by
      rw [Array.getElem?_toList] at hu2
      simp [Array.getD_eq_getD_getElem?, hu2]
    rw [this]
    exact clS_rep hR.mem (allP_mem (allP_mem hcl p hpm) y hym) (fun q hq => h2 q (hRr q (List.mem_flatMap.2 ⟨p, hpm, List.mem_flatMap.2 ⟨y, hym, hq⟩⟩))) hr)
  refine ⟨_, _, ?_, m1, m2, by simp [Mem.put, updAll_one], .of (.of (by simpa [hpl] using m3))⟩
  have hnot : ¬ (16777216 < len * eti.size) := by omega
  have k1' : Instr.fill (fun i => some (i * eti.size, eti.size)) cs0 (parts.toList.map fun (i, x) => (i, a.eval x)) = some cs' := k1
  have hrun := run_buildSlice_at (P := P) M.w (len := len) hu g1 g2 g3 h0 hsmall (parts := parts.map fun (i, x) => (i, a.eval x)) (cs' := cs') (by simpa using k1')
  simp only [execOp, ho, Sem.run_bind, hrun, Result.andThen_ok, Sem.run_pure]
  simp [Mem.put, hpl]
end

end Go.Sim
