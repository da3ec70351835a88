/- Loops and code: the abstract machine's way is the machine's. -/
import Derived.Test.YtkbeimibpeofbaaGreatSimW
namespace Go.Sim

/-! ### New names for what is kept -/
structure NamesOk (K : List (Ref × Ref)) : Prop where
  src : (K.map (·.1)).Nodup
  dst : (K.map (·.2)).Nodup

theorem assocR_mem : ∀ {K : List (Ref × Ref)} {r q : Ref}, assocR K r = some q → (r, q) ∈ K := by
  intro K
  induction K with
  | nil => intro r q h; cases h
  | cons p K ih =>
    intro r q h
    obtain ⟨a, b⟩ := p
    simp only [assocR] at h
    split at h
    · rename_i e
      subst e
      have := Option.some.inj h
      subst this
      exact .head _
    · exact .tail _ (ih h)

theorem assocR_of : ∀ {K : List (Ref × Ref)} {r q : Ref}, (K.map (·.1)).Nodup → (r, q) ∈ K → assocR K r = some q := by
  intro K
  induction K with
  | nil => intro r q _ h; cases h
  | cons p K ih =>
    intro r q hn h
    obtain ⟨a, b⟩ := p
    simp only [List.map_cons, List.nodup_cons] at hn
    simp only [assocR]
    rcases List.mem_cons.1 h with h | h
    · cases h
      simp
    · split
      · rename_i e
        subst e
        exact absurd (List.mem_map.2 ⟨_, h, rfl⟩) hn.1
      · exact ih hn.2 h

def invR (K : List (Ref × Ref)) (q : Ref) : Option Ref := assocR (K.map fun p => (p.2, p.1)) q

theorem invR_mem {K : List (Ref × Ref)} {r q : Ref} (h : invR K q = some r) : (r, q) ∈ K := by
  have := assocR_mem h
  obtain ⟨p, hp, he⟩ := List.mem_map.1 this
  obtain ⟨a, b⟩ := p
  cases he
  exact hp

theorem invR_of {K : List (Ref × Ref)} (hK : NamesOk K) {r q : Ref} (h : assocR K r = some q) : invR K q = some r := by
  refine assocR_of ?_ (List.mem_map.2 ⟨(r, q), assocR_mem h, rfl⟩)
  simpa [List.map_map, Function.comp_def] using hK.dst

theorem assocR_inv {K : List (Ref × Ref)} (hK : NamesOk K) {r q : Ref} (h : invR K q = some r) : assocR K r = some q := assocR_of hK.src (invR_mem h)

def pickM (M : Mem) (K : List (Ref × Ref)) : Mem :=
  ⟨fun q => (invR K q).bind fun r => (M.obs r).map (renO (assocR K)), fun q => (invR K q).bind M.mu, M.Pr, M.w⟩

theorem pick_ok {C : Ctx} {M : Mem} (hM : MemOk C M) {K : List (Ref × Ref)} (hK : NamesOk K) (hk : ∀ r, C.M0.obs r ≠ none → assocR K r = some r) :
    RStab (assocR K) M (pickM M K) ∧ MemOk C (pickM M K) := by
  have hmu : ∀ r q, assocR K r = some q → (pickM M K).mu q = M.mu r := fun r q h => by simp [pickM, invR_of hK h]
  have hob : ∀ r q, assocR K r = some q → (pickM M K).obs q = (M.obs r).map (renO (assocR K)) := fun r q h => by simp [pickM, invR_of hK h]
  have hex : ∀ q o, (pickM M K).obs q = some o → ∃ r o', assocR K r = some q ∧ M.obs r = some o' ∧ o = renO (assocR K) o' := by
    intro q o h
    cases hi : invR K q with
    | none => simp [pickM, hi] at h
    | some r =>
      simp only [pickM, hi, Option.bind_some, Option.map_eq_some_iff] at h
      obtain ⟨o', h1, h2⟩ := h
      exact ⟨r, o', assocR_inv hK hi, h1, h2.symm⟩
  have hR : RStab (assocR K) M (pickM M K) := by
    refine ⟨fun b o h => ⟨h, rfl⟩, fun r q cells hσ hr => ?_, fun r q e sz rows wr hσ hr => ?_⟩
    · exact ⟨cells.map (renS (assocR K)), by rw [hob r q hσ, hr]; rfl, by simp, hmu r q hσ⟩
    · exact ⟨rows, wr, by rw [hob r q hσ, hr]; rfl, Nat.le_refl _, fun _ => ⟨hmu r q hσ, fun b cur _ h => ⟨cur, h, rfl⟩⟩⟩
  refine ⟨hR, ⟨fun q o hq => ?_, fun q q' b hq hq' hb hb' => ?_, fun q b hq hb => ?_, hM.new, hM.frame, hM.le, hM.os, hM.tape, hM.output, hM.prot, ?_, hM.fresh⟩⟩
  · obtain ⟨r, o', h1, h2, rfl⟩ := hex q o hq
    exact hR.repO (hmu r q h1) (fun _ _ => rfl) (fun _ _ _ => Iff.rfl) (hM.obj r o' h2)
  · obtain ⟨o, ho⟩ := Option.ne_none_iff_exists'.1 hq
    obtain ⟨o2, ho2⟩ := Option.ne_none_iff_exists'.1 hq'
    obtain ⟨r, o', h1, h2, rfl⟩ := hex q o ho
    obtain ⟨r2, o2', h12, h22, rfl⟩ := hex q' o2 ho2
    rw [hmu r q h1] at hb
    rw [hmu r2 q' h12] at hb'
    have := hM.inj r r2 b (by simp [h2]) (by simp [h22]) hb hb'
    subst this
    exact Option.some.inj (h1.symm.trans h12)
  · obtain ⟨o, ho⟩ := Option.ne_none_iff_exists'.1 hq
    obtain ⟨r, o', h1, h2, rfl⟩ := hex q o ho
    rw [hmu r q h1] at hb
    exact hM.own r b (by simp [h2]) hb
  · refine ⟨fun b o h => hM.st.pr b o h, fun r cells hr => ?_, fun r e sz rows wr hr => ?_⟩
    · have h1 := hk r (by simp [hr])
      obtain ⟨cells', h2, h3, h4⟩ := hM.st.box r cells hr
      exact ⟨cells'.map (renS (assocR K)), by rw [hob r r h1, h2]; rfl, by simpa using h3, (hmu r r h1).trans h4⟩
    · have h1 := hk r (by simp [hr])
      obtain ⟨rows', wr', h2, h3, h4⟩ := hM.st.arr r e sz rows wr hr
      exact ⟨rows', wr', by rw [hob r r h1, h2]; rfl, h3, fun he => ⟨(hmu r r h1).trans (h4 he).1, (h4 he).2⟩⟩

theorem lookR_some_mem : ∀ {l : List (Ref × Ob)} {r : Ref} {o : Ob}, lookR l r = some o → r ∈ l.map (·.1) := by
  intro l r o h
  exact lookR_mem (by rw [h]; simp)

theorem lookR_pick (l : List (Ref × Ob)) (K : List (Ref × Ref)) (hK : NamesOk K) (q : Ref) : lookR (pickO l K) q = (invR K q).bind fun r => (lookR l r).map (renO (assocR K)) := by
  have key : ∀ (σ : Ref → Option Ref) (K : List (Ref × Ref)), (K.map (·.2)).Nodup →
      lookR (K.filterMap fun p => (lookR l p.1).map fun o => (p.2, renO σ o)) q = (invR K q).bind fun r => (lookR l r).map (renO σ) := by
    intro σ K
    induction K with
    | nil => intro _; rfl
    | cons p K ih =>
      intro hn
      obtain ⟨a, b⟩ := p
      simp only [List.map_cons, List.nodup_cons] at hn
      have ih := ih hn.2
      unfold invR at ih ⊢
      simp only [List.map_cons, assocR]
      have hnot : q = b → assocR (K.map fun p => (p.2, p.1)) q = none := by
        intro e
        cases hi : assocR (K.map fun p => (p.2, p.1)) q with
        | none => rfl
        | some r =>
          have := assocR_mem hi
          obtain ⟨p, hp, he⟩ := List.mem_map.1 this
          cases he
          exact absurd (List.mem_map.2 ⟨p, hp, e⟩) hn.1
      cases hl : lookR l a with
      | none =>
        simp only [List.filterMap_cons, hl, Option.map_none]
        rw [ih]
        by_cases hq : b = q
        · rw [if_pos hq, hnot hq.symm]; simp [hl]
        · rw [if_neg hq]
      | some o =>
        simp only [List.filterMap_cons, hl, Option.map_some, lookR]
        by_cases hq : b = q
        · rw [if_pos hq, if_pos hq.symm]; simp [hl]
        · rw [if_neg hq, if_neg (fun e => hq e.symm), ih]
  exact key _ K hK.dst

theorem dedupR_mem : ∀ {l : List Ref} {r : Ref}, r ∈ l → r ∈ dedupR l := by
  intro l
  induction l with
  | nil => intro r h; cases h
  | cons q l ih =>
    intro r h
    simp only [dedupR]
    by_cases hr : r = q
    · subst hr; exact .head _
    · rcases List.mem_cons.1 h with h | h
      · exact absurd h hr
      · exact .tail _ (List.mem_filter.2 ⟨ih h, by simp [hr]⟩)

theorem dedupR_sub : ∀ {l : List Ref} {r : Ref}, r ∈ dedupR l → r ∈ l := by
  intro l
  induction l with
  | nil => intro r h; cases h
  | cons q l ih =>
    intro r h
    simp only [dedupR] at h
    rcases List.mem_cons.1 h with h | h
    · subst h; exact .head _
    · exact .tail _ (ih (List.mem_filter.1 h).1)

theorem dedupR_nodup : ∀ (l : List Ref), (dedupR l).Nodup := by
  intro l
  induction l with
  | nil => exact .nil
  | cons q l ih =>
    simp only [dedupR]
    rw [List.nodup_cons]
    exact ⟨fun h => by simpa using (List.mem_filter.1 h).2, ih.filter _⟩

theorem outRefs_out {l : List (Ref × Ob)} {r : Ref} (h : r ∈ outRefs l) : isLoc r = false := by
  have := (List.mem_filter.1 (dedupR_sub h)).2
  simpa using this

theorem renames_ok {outs locs : List Ref} {name : Nat → Ref} (ho : outs.Nodup) (hl : locs.Nodup) (h1 : ∀ r ∈ outs, isLoc r = false) (h2 : ∀ r ∈ locs, isLoc r = true) (h3 : ∀ i j, name i = name j → i = j) (h4 : ∀ i, name i ∉ outs) :
    NamesOk (renames outs locs name) := by
  have hz : ∀ (k : Nat) (l : List Ref), (l.zipIdx k).map (·.1) = l := by
    intro k l
    induction l generalizing k with
    | nil => rfl
    | cons x l ih => simp [List.zipIdx_cons, ih]
  have hz2 : ∀ (k : Nat) (l : List Ref), ((l.zipIdx k).map fun p => name p.2).Nodup ∧ ∀ q ∈ (l.zipIdx k).map (fun p => name p.2), ∃ i, k ≤ i ∧ q = name i := by
    intro k l
    induction l generalizing k with
    | nil => exact ⟨.nil, by simp⟩
    | cons x l ih =>
      obtain ⟨g1, g2⟩ := ih (k + 1)
      simp only [List.zipIdx_cons, List.map_cons]
      refine ⟨List.nodup_cons.2 ⟨fun hm => ?_, g1⟩, fun q hq => ?_⟩
      · obtain ⟨i, hi, he⟩ := g2 _ hm
        have := h3 _ _ he
        omega
      · rcases List.mem_cons.1 hq with rfl | hq
        · exact ⟨k, Nat.le_refl _, rfl⟩
        · obtain ⟨i, hi, he⟩ := g2 _ hq
          exact ⟨i, by omega, he⟩
  constructor
  · simp only [renames, List.map_append, List.map_map, Function.comp_def, List.map_id']
    rw [hz]
    refine List.nodup_append.2 ⟨ho, hl, fun a ha b hb e => ?_⟩
    subst e
    have := h1 a ha
    rw [h2 a hb] at this
    cases this
  · simp only [renames, List.map_append, List.map_map, Function.comp_def, List.map_id']
    refine List.nodup_append.2 ⟨ho, (hz2 0 locs).1, fun a ha b hb e => ?_⟩
    subst e
    obtain ⟨i, _, he⟩ := (hz2 0 locs).2 a hb
    exact h4 i (he ▸ ha)

theorem renames_out {outs locs : List Ref} {name : Nat → Ref} (hK : NamesOk (renames outs locs name)) {r : Ref} (h : r ∈ outs) : assocR (renames outs locs name) r = some r :=
  assocR_of hK.src (List.mem_append_left _ (List.mem_map.2 ⟨r, h, rfl⟩))

theorem look_map {β γ : Type} (f : β → γ) : ∀ (l : List (Nat × β)) (t : Nat), look (l.map fun p => (p.1, f p.2)) t = (look l t).map f := by
  intro l
  induction l with
  | nil => intro t; rfl
  | cons p l ih =>
    intro t
    obtain ⟨a, b⟩ := p
    simp only [List.map_cons, look]
    split
    · rfl
    · exact ih t

theorem look_live (f : Nat → AV) : ∀ (l : List Nat) (t : Nat) (v : AV), look (l.map fun t => (t, f t)) t = some v → v = f t := by
  intro l
  induction l with
  | nil => intro t v h; cases h
  | cons a l ih =>
    intro t v h
    simp only [List.map_cons, look] at h
    split at h
    · rename_i e
      subst e
      exact (Option.some.inj h).symm
    · exact ih t v h

/-- Only what stood before is an object of the caller's. -/
def OutsOnly (C : Ctx) : Prop := ∀ r, C.M0.obs r ≠ none → isLoc r = false

theorem kept_keys {C : Ctx} {M : Mem} (hM : MemOk C M) {r : Ref} (h : C.M0.obs r ≠ none) : M.obs r ≠ none := by
  cases hm : C.M0.obs r with
  | none => exact absurd hm h
  | some o =>
    cases o with
    | box cells => obtain ⟨c', h1, _⟩ := hM.st.box r cells hm; simp [h1]
    | arr e sz rows wr => obtain ⟨r', w', h1, _⟩ := hM.st.arr r e sz rows wr hm; simp [h1]

theorem norm_sound {C : Ctx} (hC : OutsOnly C) {n : Nat} {st : St} {M : Mem} {a : Act} (hR : Rel C n (envF st.env) M a) (ho : M.obs = lookR st.obs) (live : List Nat) :
    ∃ M', M'.w = M.w ∧ Rel C n (envF (St.norm live st).env) M' a ∧ M'.obs = lookR (St.norm live st).obs := by
  unfold St.norm
  simp only
  generalize hall : (reach (lookR st.obs) 200 _ []) = all
  have hnd : all.Nodup := by rw [← hall]; exact reach_nodup _ _ _ _ (by simp)
  have hK : NamesOk (renames (outRefs st.obs) (all.filter isLoc) (fun k => .loc 0 k)) :=
    renames_ok (dedupR_nodup _) (hnd.filter _) (fun r h => outRefs_out h) (fun r h => (List.mem_filter.1 h).2) (fun i j h => by cases h; rfl) (fun i h => by have := outRefs_out h; cases this)
  generalize hKe : renames (outRefs st.obs) (all.filter isLoc) (fun k => .loc 0 k) = K at *
  have hk : ∀ r, C.M0.obs r ≠ none → assocR K r = some r := by
    intro r hr
    have h1 := hC r hr
    have h2 := kept_keys hR.mem hr
    rw [ho] at h2
    have h3 : r ∈ outRefs st.obs := dedupR_mem (List.mem_filter.2 ⟨lookR_mem h2, by simp [h1]⟩)
    subst hKe
    exact renames_out hK h3
  obtain ⟨hS, hok⟩ := pick_ok hR.mem hK hk
  refine ⟨pickM M K, rfl, ⟨hR.size, hR.defers, fun t => ?_, hok⟩, ?_⟩
  · show RepV _ ((look ((live.map fun t => (t, envF st.env t)).map fun p => (p.1, renV (assocR K) p.2)) t).getD .junk) _
    rw [look_map]
    cases hl : look (live.map fun t => (t, envF st.env t)) t with
    | none => trivial
    | some v =>
      have := look_live _ _ _ _ hl
      subst this
      exact hS.repV (hR.env t)
  · funext q
    rw [lookR_pick _ _ hK]
    simp only [pickM]
    rw [ho]

/-! ### Code -/
def exOf : Ex → Exit
  | .nx => .normal
  | .ex id => .exit id
  | .rt => .ret

def LoopWp (P : Program) (c : Code) (Q : Exit → Act → World → Prop) (a : Act) (w : World) : Prop :=
  ∀ (b : Frame) (k : List Item) (cs : List Frame), ∃ e a' w', Q e a' w' ∧ Arrives P (lone (b.at a (.code c :: .inLoop c :: k)) cs w) b k cs e a' w'

theorem LoopWp.wp {P : Program} {c : Code} {Q : Exit → Act → World → Prop} {a : Act} {w : World} (h : LoopWp P c Q a w) : (Code.loop c).wp P Q a w := fun b k cs =>
  let ⟨e, a', w', hq, harr⟩ := h b k cs
  ⟨e, a', w', hq, .of_steps (.one step_loop) harr⟩

theorem LoopWp.of {P : Program} {c : Code} {Q : Exit → Act → World → Prop} {a : Act} {w : World} (h : c.wp P (Exit.then (LoopWp P c Q) Q) a w) : LoopWp P c Q a w := by
  intro b k cs
  obtain ⟨e, a₁, w₁, hq, harr⟩ := h b (.inLoop c :: k) cs
  cases e with
  | normal =>
    obtain ⟨e₂, a₂, w₂, hq₂, harr₂⟩ := hq b k cs
    exact ⟨e₂, a₂, w₂, hq₂, .of_steps (Steps.trans harr (.one step_inLoop)) harr₂⟩
  | exit id => exact ⟨_, a₁, w₁, hq, .pass (x := .inLoop c) rfl (fun _ _ => .inl (by simp)) harr⟩
  | goto l => exact ⟨_, a₁, w₁, hq, .pass (x := .inLoop c) rfl (fun _ _ => .inl (by simp)) harr⟩
  | ret => exact ⟨_, a₁, w₁, hq, .pass (x := .inLoop c) rfl (fun _ _ => .inl (by simp)) harr⟩
  | panic ch => exact ⟨_, a₁, w₁, hq, .pass (x := .inLoop c) rfl (fun _ _ => .inl (by simp)) harr⟩
  | outgrown => exact ⟨_, a₁, w₁, hq, .pass (x := .inLoop c) rfl (fun _ _ => .inl (by simp)) harr⟩

def LpOk (lp : (St → Option (Ex × St)) → (St → St) → St → Option (Ex × St)) : Prop := ∀ step norm st r, lp step norm st = some r → ∃ k, loopF step norm k st = some r

section
variable {P : Program} {cfg : Cfg} {fi n : Nat} {call : FuncId → List AV → List Ob → Option (AV × List Ob)} {lp : (St → Option (Ex × St)) → (St → St) → St → Option (Ex × St)}

def SoundC (P : Program) (cfg : Cfg) (fi n : Nat) (call : FuncId → List AV → List Ob → Option (AV × List Ob)) (lp : (St → Option (Ex × St)) → (St → St) → St → Option (Ex × St)) (c : Code) : Prop :=
  ∀ (st : St) (e : Ex) (st' : St), runC cfg fi n call lp c st = some (e, st') → ∀ (C : Ctx) (M : Mem) (a : Act) (Q : Exit → Act → World → Prop), OutsOnly C → Rel C n (envF st.env) M a → M.obs = lookR st.obs →
    (∀ M' a', Rel C n (envF st'.env) M' a' → M'.obs = lookR st'.obs → Q (exOf e) a' M'.w) → c.wp P Q a M.w

theorem loop_sound {c : Code} (hc : SoundC P cfg fi n call lp c) (live : List Nat) : ∀ (k : Nat) (st : St) (e : Ex) (st' : St), loopF (runC cfg fi n call lp c) (St.norm live) k st = some (e, st') →
    ∀ (C : Ctx) (M : Mem) (a : Act) (Q : Exit → Act → World → Prop), OutsOnly C → Rel C n (envF st.env) M a → M.obs = lookR st.obs →
      (∀ M' a', Rel C n (envF st'.env) M' a' → M'.obs = lookR st'.obs → Q (exOf e) a' M'.w) → LoopWp P c Q a M.w := by
  intro k
  induction k with
  | zero => intro st e st' h; cases h
  | succ k ih =>
    intro st e st' h C M a Q hC hR ho hQ
    obtain ⟨M1, hw, hR1, ho1⟩ := norm_sound hC hR ho live
    rw [← hw]
    refine LoopWp.of ?_
    simp only [loopF] at h
    cases hr : runC cfg fi n call lp c (St.norm live st) with
    | none => rw [hr] at h; cases h
    | some p =>
      obtain ⟨e1, st1⟩ := p
      rw [hr] at h
      refine hc _ _ _ hr C M1 a _ hC hR1 ho1 (fun M2 a2 hR2 ho2 => ?_)
      cases e1 with
      | nx => exact ih _ _ _ h C M2 a2 Q hC hR2 ho2 hQ
      | ex id =>
        simp only [Option.some.injEq, Prod.mk.injEq] at h
        obtain ⟨rfl, rfl⟩ := h
        exact hQ M2 a2 hR2 ho2
      | rt =>
        simp only [Option.some.injEq, Prod.mk.injEq] at h
        obtain ⟨rfl, rfl⟩ := h
        exact hQ M2 a2 hR2 ho2

theorem runC_sound (hm : P.follows .mixedOrders = true) (hTb : TabOk P cfg.tab) (hcall : ∀ f args outs r, call f args outs = some r → Does P f args outs r.1 r.2) (hlp : LpOk lp) : ∀ c : Code, SoundC P cfg fi n call lp c := by
  intro c
  induction c with
  | skip =>
    intro st e st' h C M a Q hC hR ho hQ
    simp only [runC, Option.some.injEq, Prod.mk.injEq] at h
    obtain ⟨rfl, rfl⟩ := h
    exact wp_skip (hQ M a hR ho)
  | region id ops drw =>
    intro st e st' h C M a Q hC hR ho hQ
    simp only [runC] at h
    split at h
    · rename_i st1 hr
      simp only [Option.some.injEq, Prod.mk.injEq] at h
      obtain ⟨rfl, rfl⟩ := h
      exact runRegion_sound hm hTb hcall hr hR ho hQ
    · cases h
  | seq x y ihx ihy =>
    intro st e st' h C M a Q hC hR ho hQ
    simp only [runC] at h
    refine wp_seq ?_
    cases hr : runC cfg fi n call lp x st with
    | none => rw [hr] at h; cases h
    | some p =>
      obtain ⟨e1, st1⟩ := p
      rw [hr] at h
      refine ihx _ _ _ hr C M a _ hC hR ho (fun M1 a1 hR1 ho1 => ?_)
      cases e1 with
      | nx => exact ihy _ _ _ h C M1 a1 Q hC hR1 ho1 hQ
      | ex id =>
        simp only [Option.some.injEq, Prod.mk.injEq] at h
        obtain ⟨rfl, rfl⟩ := h
        exact hQ M1 a1 hR1 ho1
      | rt =>
        simp only [Option.some.injEq, Prod.mk.injEq] at h
        obtain ⟨rfl, rfl⟩ := h
        exact hQ M1 a1 hR1 ho1
  | cond c x y ihx ihy =>
    intro st e st' h C M a Q hC hR ho hQ
    simp only [runC] at h
    split at h
    · rename_i t ht
      have hv := hR.ev c
      rw [ht] at hv
      refine wp_cond (rep_bool hv) ?_
      cases t with
      | true => exact ihx _ _ _ h C M a Q hC (by rw [envF_rebC ht]; exact hR) (by rw [obs_rebC]; exact ho) hQ
      | false => exact ihy _ _ _ h C M a Q hC (by rw [envF_rebC ht]; exact hR) (by rw [obs_rebC]; exact ho) hQ
    · cases h
  | block id c ih =>
    intro st e st' h C M a Q hC hR ho hQ
    simp only [runC] at h
    refine wp_block ?_
    cases hr : runC cfg fi n call lp c st with
    | none => rw [hr] at h; cases h
    | some p =>
      obtain ⟨e1, st1⟩ := p
      rw [hr] at h
      refine ih _ _ _ hr C M a _ hC hR ho (fun M1 a1 hR1 ho1 => ?_)
      cases e1 with
      | nx =>
        simp only [Option.some.injEq, Prod.mk.injEq] at h
        obtain ⟨rfl, rfl⟩ := h
        exact hQ M1 a1 hR1 ho1
      | ex id' =>
        simp only at h
        show (if id' = id then Q .normal a1 M1.w else Q (.exit id') a1 M1.w)
        split at h
        · rename_i he
          rw [if_pos he]
          simp only [Option.some.injEq, Prod.mk.injEq] at h
          obtain ⟨rfl, rfl⟩ := h
          exact hQ M1 a1 hR1 ho1
        · rename_i he
          rw [if_neg he]
          simp only [Option.some.injEq, Prod.mk.injEq] at h
          obtain ⟨rfl, rfl⟩ := h
          exact hQ M1 a1 hR1 ho1
      | rt =>
        simp only [Option.some.injEq, Prod.mk.injEq] at h
        obtain ⟨rfl, rfl⟩ := h
        exact hQ M1 a1 hR1 ho1
  | loop c ih =>
    intro st e st' h C M a Q hC hR ho hQ
    simp only [runC] at h
    obtain ⟨k, hk⟩ := hlp _ _ _ _ h
    exact (loop_sound ih _ k st e st' hk C M a Q hC hR ho hQ).wp
  | exit id =>
    intro st e st' h C M a Q hC hR ho hQ
    simp only [runC, Option.some.injEq, Prod.mk.injEq] at h
    obtain ⟨rfl, rfl⟩ := h
    exact wp_exit (hQ M a hR ho)
  | ret =>
    intro st e st' h C M a Q hC hR ho hQ
    simp only [runC, Option.some.injEq, Prod.mk.injEq] at h
    obtain ⟨rfl, rfl⟩ := h
    exact wp_ret (hQ M a hR ho)
  | _ => intro st e st' h; simp [runC] at h
end
end Go.Sim
