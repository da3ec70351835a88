/- The exact contract of a function, and what a call by it does to the caller's state. -/
import Derived.Test.YtkbeimibpeofbaaGreatSimE
namespace Go.Sim

def obsOf (outs : List Ob) : Ref → Option Ob
  | .out j => outs[j]?
  | .loc _ _ => none

def cctx (M : Mem) (n : Nat) : Ctx := ⟨M, fun b => (∃ j, j < n ∧ M.mu (.out j) = some b) ∨ M.w.heap.size ≤ b⟩

/-- Called with these arguments and objects, f returns res and leaves the objects as outs' (those that were passed, then those made). -/
structure Does (P : Program) (f : FuncId) (args : List AV) (outs : List Ob) (res : AV) (outs' : List Ob) : Prop where
  enter : ∀ (vs : Array Value) (w : World), (callFunc f vs).run P w = .ok (.enter f vs) w
  run : ∀ (M : Mem) (vs : List Value), M.obs = obsOf outs → MemOk (cctx M outs.length) M → vs.length = args.length →
    (∀ (j : Nat) x v, args[j]? = some x → vs[j]? = some v → RepA M x v) →
    Calls P f vs.toArray M.w fun e w' => ∃ v M', e = .returned v ∧ M'.w = w' ∧ M'.obs = obsOf outs' ∧ MemOk (cctx M outs.length) M' ∧ RepV M' res v

def gidx : List Ref → Ref → Option Nat
  | [], _ => none
  | g :: gs, r => if g = r then some 0 else (gidx gs r).map (· + 1)

theorem gidx_get : ∀ {G : List Ref} {r : Ref} {j : Nat}, gidx G r = some j → G[j]? = some r := by
  intro G
  induction G with
  | nil => intro r j h; simp [gidx] at h
  | cons g gs ih =>
    intro r j h
    simp only [gidx] at h
    split at h
    · rename_i hg; subst hg; have := Option.some.inj h; subst this; rfl
    · obtain ⟨k, hk, rfl⟩ := Option.map_eq_some_iff.1 h
      simpa using ih hk

theorem gidx_none : ∀ {G : List Ref} {r : Ref}, gidx G r = none → r ∉ G := by
  intro G
  induction G with
  | nil => intro r _; simp
  | cons g gs ih =>
    intro r h
    simp only [gidx] at h
    split at h
    · simp at h
    · rename_i hg
      have := ih (by simpa using h)
      simp [Ne.symm hg, this]

/-- A callee's objects as the caller knows them: those passed (G), then those that it made (behind the call with dst d). -/
def alls (G : List Ref) (d E : Nat) : List Ref := G ++ (List.range E).map (Ref.loc d)
def cidx (G : List Ref) (d E : Nat) (r : Ref) : Option Nat := gidx (alls G d E) r

def sig (G : List Ref) (r : Ref) : Option Ref := (gidx G r).map .out
def tau (G : List Ref) (d E : Nat) : Ref → Option Ref
  | .out j => (alls G d E)[j]?
  | .loc _ _ => none

def obsBack (obs : Ref → Option Ob) (G : List Ref) (d E : Nat) (outs' : List Ob) (r : Ref) : Option Ob :=
  match cidx G d E r with
  | some j => (outs'[j]?).map (renO (tau G d E))
  | none => obs r

theorem gidx_nodup {G : List Ref} (hnd : G.Nodup) {j : Nat} {r : Ref} (h : G[j]? = some r) : gidx G r = some j := by
  cases hg : gidx G r with
  | none => exact absurd (List.mem_of_getElem? h) (gidx_none hg)
  | some k =>
    have hk := gidx_get hg
    have hj : j < G.length := (List.getElem?_eq_some_iff.1 h).1
    have hkl : k < G.length := (List.getElem?_eq_some_iff.1 hk).1
    congr 1
    rw [List.getElem?_eq_getElem hj] at h
    rw [List.getElem?_eq_getElem hkl] at hk
    have he : G[k] = G[j] := by rw [Option.some.inj hk, Option.some.inj h]
    exact (List.getElem_inj hnd).1 he

theorem cidx_inj {G : List Ref} {d E : Nat} {r r' : Ref} {j : Nat} (h : cidx G d E r = some j) (h' : cidx G d E r' = some j) : r = r' :=
  Option.some.inj ((gidx_get h).symm.trans (gidx_get h'))

theorem gidx_left {A B : List Ref} {r : Ref} {j : Nat} (h : gidx A r = some j) : gidx (A ++ B) r = some j := by
  induction A generalizing j with
  | nil => simp [gidx] at h
  | cons a A ih =>
    simp only [gidx, List.cons_append] at h ⊢
    split
    · rename_i ha; rw [if_pos ha] at h; exact h
    · rename_i ha
      rw [if_neg ha] at h
      obtain ⟨k, hk, rfl⟩ := Option.map_eq_some_iff.1 h
      rw [ih hk]
      rfl

theorem gidx_notin {A : List Ref} {r : Ref} (h : r ∉ A) : gidx A r = none := by
  cases hg : gidx A r with
  | none => rfl
  | some k => exact absurd (List.mem_of_getElem? (gidx_get hg)) h

theorem callG {P : Program} {C : Ctx} {M : Mem} (hM : MemOk C M) {f : FuncId} {args : List AV} {outs : List Ob} {res : AV} {outs' : List Ob} (hcall : Does P f args outs res outs')
    (G : List Ref) (d : Nat) (hnd : G.Nodup) (hlen : outs.length = G.length)
    (houts : ∀ (j : Nat) (r : Ref), G[j]? = some r → ∃ o, M.obs r = some o ∧ outs[j]? = some (renO (sig G) o))
    (E : Nat) (hfresh : ∀ k, k < E → M.obs (.loc d k) = none) (vs : List Value) (hvl : vs.length = args.length)
    (hvs : ∀ Mc : Mem, RStab (sig G) M Mc → Mc.Pr = M.Pr → Mc.w = M.w → ∀ (j : Nat) x v, args[j]? = some x → vs[j]? = some v → RepA Mc x v) :
    Calls P f vs.toArray M.w fun e w' => ∃ v M', e = .returned v ∧ M'.w = w' ∧ M'.obs = obsBack M.obs G d E outs' ∧ Stab M M' ∧ MemOk C M' ∧ RepV M' (renV (tau G d E) res) v := by
  let Mc : Mem := ⟨obsOf outs, fun r => match r with | .out j => (G[j]?).bind M.mu | .loc _ _ => none, M.Pr, M.w⟩
  have hmuc : ∀ j r, G[j]? = some r → Mc.mu (.out j) = M.mu r := fun j r h => by simp [Mc, h]
  have hobc : ∀ q o, Mc.obs q = some o → ∃ j r o', q = .out j ∧ G[j]? = some r ∧ M.obs r = some o' ∧ o = renO (sig G) o' := by
    intro q o h
    cases q with
    | loc a b => simp [Mc, obsOf] at h
    | out j =>
      have h : outs[j]? = some o := h
      have hj : j < G.length := by rw [← hlen]; exact (List.getElem?_eq_some_iff.1 h).1
      obtain ⟨o', h1, h2⟩ := houts j G[j] (List.getElem?_eq_getElem hj)
      exact ⟨j, G[j], o', rfl, List.getElem?_eq_getElem hj, h1, by rw [h] at h2; exact Option.some.inj h2⟩
  have hR : RStab (sig G) M Mc := by
    refine ⟨fun b o h => ⟨h, rfl⟩, fun r q cells hσ hr => ?_, fun r q e sz rows wr hσ hr => ?_⟩
    · obtain ⟨j, hj, rfl⟩ := Option.map_eq_some_iff.1 hσ
      have hg := gidx_get hj
      obtain ⟨o, h1, h2⟩ := houts j r hg
      rw [hr] at h1
      have := Option.some.inj h1
      subst this
      exact ⟨_, h2, by simp, hmuc j r hg⟩
    · obtain ⟨j, hj, rfl⟩ := Option.map_eq_some_iff.1 hσ
      have hg := gidx_get hj
      obtain ⟨o, h1, h2⟩ := houts j r hg
      rw [hr] at h1
      have := Option.some.inj h1
      subst this
      exact ⟨rows, wr, h2, Nat.le_refl _, fun _ => ⟨hmuc j r hg, fun b cur _ h => ⟨cur, h, rfl⟩⟩⟩
  have hMc : MemOk (cctx Mc outs.length) Mc := by
    refine ⟨fun q o hq => ?_, fun q q' b hq hq' hb hb' => ?_, fun q b hq hb => ?_, fun b hb => .inr hb, fun b _ => rfl, Nat.le_refl _, rfl, rfl, rfl, hM.prot, Stab.refl _, fun b o h => .inl h⟩
    · obtain ⟨j, r, o', rfl, hg, hr, rfl⟩ := hobc q o hq
      exact hR.repO (hmuc j r hg) (fun _ _ => rfl) (fun _ _ _ => Iff.rfl) (hM.obj r o' hr)
    · obtain ⟨o, ho⟩ := Option.ne_none_iff_exists'.1 hq
      obtain ⟨o2, ho2⟩ := Option.ne_none_iff_exists'.1 hq'
      obtain ⟨j, r, o', rfl, hg, hr, rfl⟩ := hobc q o ho
      obtain ⟨j2, r2, o2', rfl, hg2, hr2, rfl⟩ := hobc q' o2 ho2
      rw [hmuc j r hg] at hb
      rw [hmuc j2 r2 hg2] at hb'
      have := hM.inj r r2 b (by simp [hr]) (by simp [hr2]) hb hb'
      subst this
      have h1 := gidx_nodup hnd hg
      have h2 := gidx_nodup hnd hg2
      rw [h1] at h2
      rw [Option.some.inj h2]
    · obtain ⟨o, ho⟩ := Option.ne_none_iff_exists'.1 hq
      obtain ⟨j, r, o', rfl, hg, hr, rfl⟩ := hobc q o ho
      exact .inl ⟨j, by rw [hlen]; exact (List.getElem?_eq_some_iff.1 hg).1, hb⟩
  refine Calls.mono (hcall.run Mc vs rfl hMc hvl (hvs Mc hR rfl rfl)) ?_
  rintro e w' ⟨v, M2, rfl, rfl, hobs2, hM2, hv⟩
  -- which blocks a callee may own
  have hown : ∀ b, (cctx Mc outs.length).Own b → (∃ r, r ∈ G ∧ M.obs r ≠ none ∧ M.mu r = some b) ∨ M.w.heap.size ≤ b := by
    rintro b (⟨j, hj, hb⟩ | hb)
    · have hjl : j < G.length := by omega
      have hg : G[j]? = some G[j] := List.getElem?_eq_getElem hjl
      obtain ⟨o, ho, _⟩ := houts j _ hg
      rw [hmuc j _ hg] at hb
      exact .inl ⟨G[j], List.getElem_mem hjl, by simp [ho], hb⟩
    · exact .inr hb
  have hoth : ∀ r o b, M.obs r = some o → cidx G d E r = none → M.mu r = some b → ¬ (cctx Mc outs.length).Own b := by
    intro r o b hr hc hb hO
    have hlt := hM.block_lt hr hb
    rcases hown b hO with ⟨q, hq, hq2, hq3⟩ | hge
    · have := hM.inj r q b (by simp [hr]) hq2 hb hq3
      subst this
      exact gidx_none hc (List.mem_append_left _ hq)
    · omega
  let M' : Mem := ⟨obsBack M.obs G d E outs', fun r => match cidx G d E r with | some j => M2.mu (.out j) | none => M.mu r, M2.Pr, M2.w⟩
  have hcg : ∀ j r, G[j]? = some r → cidx G d E r = some j := fun j r h => gidx_left (gidx_nodup hnd h)
  have hcl : ∀ r o, M.obs r = some o → gidx G r = none → cidx G d E r = none := by
    intro r o hr hg
    refine gidx_notin fun hm => ?_
    rcases List.mem_append.1 hm with hm | hm
    · exact gidx_none hg hm
    · obtain ⟨k, hk, rfl⟩ := List.mem_map.1 hm
      rw [hfresh k (by simpa using hk)] at hr
      simp at hr
  have hndA : (alls G d E).Nodup := by
    refine List.nodup_append.2 ⟨hnd, ?_, fun r hr q hq e => ?_⟩
    · refine List.Pairwise.map (R := fun a b => a ≠ b) _ (fun a b hne he => hne (by simpa using he)) List.nodup_range
    · subst e
      obtain ⟨k, hk, rfl⟩ := List.mem_map.1 hq
      obtain ⟨j, hj⟩ := List.getElem?_of_mem hr
      obtain ⟨o, ho, _⟩ := houts j _ hj
      rw [hfresh k (by simpa using hk)] at ho
      simp at ho
  have hτ : ∀ r q, tau G d E r = some q → ∃ j, r = .out j ∧ cidx G d E q = some j := by
    intro r q h
    cases r with
    | loc a b => simp [tau] at h
    | out j => exact ⟨j, rfl, gidx_nodup hndA h⟩
  have hM2o : ∀ j, M2.obs (.out j) = outs'[j]? := fun j => by rw [hobs2]; rfl
  have hobk : ∀ q j, cidx G d E q = some j → M'.obs q = (outs'[j]?).map (renO (tau G d E)) ∧ M'.mu q = M2.mu (.out j) := fun q j h => by simp [M', obsBack, h]
  have hobn : ∀ q, cidx G d E q = none → M'.obs q = M.obs q ∧ M'.mu q = M.mu q := fun q h => by simp [M', obsBack, h]
  have hR2 : RStab (tau G d E) M2 M' := by
    refine ⟨fun b o h => ⟨h, rfl⟩, fun r q cells hσ hr => ?_, fun r q e sz rows wr hσ hr => ?_⟩
    · obtain ⟨j, rfl, hc⟩ := hτ r q hσ
      obtain ⟨h1, h2⟩ := hobk q j hc
      rw [hM2o] at hr
      exact ⟨cells.map (renS (tau G d E)), by rw [h1, hr]; rfl, by simp, h2⟩
    · obtain ⟨j, rfl, hc⟩ := hτ r q hσ
      obtain ⟨h1, h2⟩ := hobk q j hc
      rw [hM2o] at hr
      exact ⟨rows, wr, by rw [h1, hr]; rfl, Nat.le_refl _, fun _ => ⟨h2, fun b cur _ h => ⟨cur, h, rfl⟩⟩⟩
  have hS : Stab M M' := by
    refine ⟨fun b o h => hM2.st.pr b o h, fun r cells hr => ?_, fun r e sz rows wr hr => ?_⟩
    · cases hg : gidx G r with
      | some j =>
        have hgg := gidx_get hg
        obtain ⟨o, h1, h2⟩ := houts j r hgg
        rw [hr] at h1
        have := Option.some.inj h1
        subst this
        obtain ⟨cells', h3, h4, h5⟩ := hM2.st.box (.out j) _ h2
        rw [hM2o] at h3
        obtain ⟨k1, k2⟩ := hobk r j (hcg j r hgg)
        exact ⟨cells'.map (renS (tau G d E)), by rw [k1, h3]; rfl, by simpa using h4, by rw [k2, h5]; exact hmuc j r hgg⟩
      | none =>
        obtain ⟨k1, k2⟩ := hobn r (hcl r _ hr hg)
        exact ⟨cells, k1.trans hr, rfl, k2⟩
    · cases hg : gidx G r with
      | some j =>
        have hgg := gidx_get hg
        obtain ⟨o, h1, h2⟩ := houts j r hgg
        rw [hr] at h1
        have := Option.some.inj h1
        subst this
        obtain ⟨rows', wr', h3, h4, h5⟩ := hM2.st.arr (.out j) _ _ _ _ h2
        rw [hM2o] at h3
        obtain ⟨k1, k2⟩ := hobk r j (hcg j r hgg)
        refine ⟨rows', wr', by rw [k1, h3]; rfl, h4, fun he => ?_⟩
        obtain ⟨h6, h7⟩ := h5 he
        exact ⟨by rw [k2, h6]; exact hmuc j r hgg, fun b cur hb hc => h7 b cur ((hmuc j r hgg).trans hb) hc⟩
      | none =>
        have hcn := hcl r _ hr hg
        obtain ⟨k1, k2⟩ := hobn r hcn
        refine ⟨rows, wr, k1.trans hr, Nat.le_refl _, fun _ => ⟨k2, fun b cur hb hc => ⟨cur, ?_, rfl⟩⟩⟩
        exact (hM2.frame b (hoth r _ b hr hcn hb)).trans hc
  refine ⟨v, M', rfl, rfl, rfl, hS, ?_, hR2.repV hv⟩
  have hownC : ∀ b, (cctx Mc outs.length).Own b → C.Own b := by
    intro b hO
    rcases hown b hO with ⟨r, _, h1, h2⟩ | hge
    · exact hM.own r b h1 h2
    · exact hM.new b (Nat.le_trans hM.le hge)
  have hfr : ∀ b, b < M.w.heap.size → ¬ (cctx Mc outs.length).Own b → M2.w.heap[b]? = M.w.heap[b]? := fun b _ hO => hM2.frame b hO
  have hcallee : ∀ q j, cidx G d E q = some j → M'.obs q ≠ none → M2.obs (.out j) ≠ none := fun q j h ho => by
    rw [(hobk q j h).1] at ho
    rw [hM2o]
    intro hn
    rw [hn] at ho
    exact ho rfl
  refine ⟨fun q o hq => ?_, fun q q' b hq hq' hb hb' => ?_, fun q b hq hb => ?_, hM.new, fun b hb => ?_, Nat.le_trans hM.le hM2.le, hM2.os.trans hM.os, hM2.tape.trans hM.tape,
    hM2.output.trans hM.output, hM2.prot, hM.st.trans hS, fun b o hp => ?_⟩
  · cases hc : cidx G d E q with
    | some j =>
      obtain ⟨h1, h2⟩ := hobk q j hc
      rw [h1] at hq
      obtain ⟨o2, h3, rfl⟩ := Option.map_eq_some_iff.1 hq
      exact hR2.repO h2 (fun _ _ => rfl) (fun _ _ _ => Iff.rfl) (hM2.obj (.out j) o2 ((hM2o j).trans h3))
    | none =>
      obtain ⟨h1, h2⟩ := hobn q hc
      rw [h1] at hq
      refine hS.repO h2 (fun b hb => hfr b (hM.block_lt hq hb) (hoth q o b hq hc hb)) (fun b p hb => ⟨fun hp => ?_, fun hp => (hM2.st.pr b p hp).1⟩) (hM.obj q o hq)
      rcases hM2.fresh b p hp with h | h
      · exact h
      · exact absurd h (hoth q o b hq hc hb)
  · cases hc : cidx G d E q with
    | some j =>
      rw [(hobk q j hc).2] at hb
      have ho := hcallee q j hc hq
      cases hc' : cidx G d E q' with
      | some j' =>
        rw [(hobk q' j' hc').2] at hb'
        have := hM2.inj _ _ b ho (hcallee q' j' hc' hq') hb hb'
        have : j = j' := by simpa using this
        subst this
        exact cidx_inj hc hc'
      | none =>
        obtain ⟨h1, h2⟩ := hobn q' hc'
        rw [h1] at hq'
        rw [h2] at hb'
        obtain ⟨o, ho'⟩ := Option.ne_none_iff_exists'.1 hq'
        exact absurd (hM2.own _ b ho hb) (hoth q' o b ho' hc' hb')
    | none =>
      obtain ⟨h1, h2⟩ := hobn q hc
      rw [h1] at hq
      rw [h2] at hb
      obtain ⟨o, ho⟩ := Option.ne_none_iff_exists'.1 hq
      cases hc' : cidx G d E q' with
      | some j' =>
        rw [(hobk q' j' hc').2] at hb'
        exact absurd (hM2.own _ b (hcallee q' j' hc' hq') hb') (hoth q o b ho hc hb)
      | none =>
        obtain ⟨h3, h4⟩ := hobn q' hc'
        rw [h3] at hq'
        rw [h4] at hb'
        exact hM.inj q q' b hq hq' hb hb'
  · cases hc : cidx G d E q with
    | some j =>
      rw [(hobk q j hc).2] at hb
      exact hownC b (hM2.own _ b (hcallee q j hc hq) hb)
    | none =>
      obtain ⟨h1, h2⟩ := hobn q hc
      rw [h1] at hq
      rw [h2] at hb
      exact hM.own q b hq hb
  · have hlt : b < C.M0.w.heap.size := Nat.lt_of_not_le fun hge => hb (hM.new b hge)
    exact (hfr b (Nat.lt_of_lt_of_le hlt hM.le) (fun hO => hb (hownC b hO))).trans (hM.frame b hb)
  · rcases hM2.fresh b o hp with h | h
    · exact hM.fresh b o h
    · exact .inr (hownC b h)

end Go.Sim
