/- Regions in whatever order their edges allow. -/
import Derived.Test.YtkbeimibpeofbaaGreatSimQ
namespace Go.Sim

def needT (s : Step) : List Nat := s.need.filterMap fun p => match p.1 with
  | .tmp t => some t
  | _ => none
def wkeys (s : Step) : List Ref := s.U.map (·.1)
def rkeys (s : Step) : List Ref := s.R.map (·.1) ++ s.Nw ++ s.U.map (·.1)

def indep (oi oj : Oper) (si sj : Step) : Bool :=
  (match oi.dst with
    | some d => !(needT sj).contains d && oj.dst != some d
    | none => true) &&
  (match oj.dst with
    | some d => !(needT si).contains d
    | none => true) &&
  (wkeys si).all (fun r => !(rkeys sj).contains r) && (wkeys sj).all (fun r => !(rkeys si).contains r)

def masks : List Oper → List Nat → List Nat
  | [], acc => acc
  | o :: os, acc => masks os (acc ++ [o.after.toList.foldl (fun s e => if Region.binds .any e then s ||| 2 ^ e.on ||| acc.getD e.on 0 else s) 0])

def pairsOk : Nat → List (Oper × Step × Nat) → Bool
  | _, [] => true
  | k, x :: xs => xs.all (fun y => y.2.2.testBit k || indep x.1 y.1 x.2.1 y.2.1) && pairsOk (k + 1) xs

def edgesOk : Nat → List Oper → Bool
  | _, [] => true
  | k, o :: os => o.after.toList.all (fun e => !Region.binds .any e || decide (e.on < k)) && edgesOk (k + 1) os

def orderOk (l : List Oper) (ss : List Step) : Bool := pairsOk 0 (l.zip (ss.zip (masks l []))) && edgesOk 0 l

theorem pairsOk_get : ∀ (l : List (Oper × Step × Nat)) (k : Nat), pairsOk k l = true → ∀ (i j : Nat) x y, i < j → l[i]? = some x → l[j]? = some y → y.2.2.testBit (k + i) = true ∨ indep x.1 y.1 x.2.1 y.2.1 = true := by
  intro l
  induction l with
  | nil => intro k _ i j x y _ h; simp at h
  | cons z zs ih =>
    intro k h i j x y hij hi hj
    simp only [pairsOk, Bool.and_eq_true] at h
    cases j with
    | zero => omega
    | succ j =>
      have hj : zs[j]? = some y := by simpa using hj
      cases i with
      | zero =>
        have : z = x := by simpa using hi
        subst this
        have := List.all_eq_true.1 h.1 y (List.mem_of_getElem? hj)
        simpa using this
      | succ i =>
        have := ih (k + 1) h.2 i j x y (by omega) (by simpa using hi) hj
        rwa [show k + 1 + i = k + (i + 1) from by omega] at this

theorem edgesOk_get : ∀ (l : List Oper) (k : Nat), edgesOk k l = true → ∀ (i : Nat) o e, l[i]? = some o → e ∈ o.after → Region.binds .any e = true → e.on < k + i := by
  intro l
  induction l with
  | nil => intro k _ i o e h; simp at h
  | cons z zs ih =>
    intro k h i o e hi he hb
    simp only [edgesOk, Bool.and_eq_true] at h
    cases i with
    | zero =>
      have : z = o := by simpa using hi
      subst this
      have := List.all_eq_true.1 h.1 e (by simpa using he)
      simp [hb] at this
      omega
    | succ i =>
      have := ih (k + 1) h.2 i o e (by simpa using hi) he hb
      omega

theorem masks_closed {X : Nat → Bool} {all : List Oper} (hX : ∀ (j : Nat) o e, all[j]? = some o → e ∈ o.after → Region.binds .any e = true → X j = true → X e.on = true) :
    ∀ (l : List Oper) (acc : List Nat), (∀ (j : Nat) o, l[j]? = some o → all[acc.length + j]? = some o) → (∀ (j : Nat) m, acc[j]? = some m → ∀ i, m.testBit i = true → X j = true → X i = true) →
    ∀ (j : Nat) m, (masks l acc)[j]? = some m → ∀ i, m.testBit i = true → X j = true → X i = true := by
  intro l
  induction l with
  | nil => intro acc _ h; exact h
  | cons o os ih =>
    intro acc hal hacc
    simp only [masks]
    refine ih _ (fun j o' hj => ?_) (fun j m hj i hi hXj => ?_)
    · have := hal (j + 1) o' (by simpa using hj)
      simpa [Nat.add_assoc, Nat.add_comm 1 j] using this
    · by_cases hjl : j < acc.length
      · rw [List.getElem?_append_left hjl] at hj
        exact hacc j m hj i hi hXj
      · have hje : j = acc.length := by
          have := (List.getElem?_eq_some_iff.1 hj).1
          simp at this
          omega
        subst hje
        have hm : m = o.after.toList.foldl (fun s e => if Region.binds .any e then s ||| 2 ^ e.on ||| acc.getD e.on 0 else s) 0 := by simpa using hj.symm
        have ho : all[acc.length]? = some o := by simpa using hal 0 o rfl
        have key : ∀ (es : List Edge) (s : Nat), (∀ e ∈ es, e ∈ o.after) → (s.testBit i = true → X i = true) →
            (es.foldl (fun s e => if Region.binds .any e then s ||| 2 ^ e.on ||| acc.getD e.on 0 else s) s).testBit i = true → X i = true := by
          intro es
          induction es with
          | nil => intro s _ hs h; exact hs h
          | cons e es ihe =>
            intro s hes hs h
            simp only [List.foldl_cons] at h
            refine ihe _ (fun e' h' => hes e' (.tail _ h')) (fun hb => ?_) h
            split at hb
            · rename_i hbd
              have hXe := hX acc.length o e ho (hes e (.head _)) hbd hXj
              simp only [Nat.testBit_or, Bool.or_eq_true] at hb
              rcases hb with (hb | hb) | hb
              · exact hs hb
              · rw [Nat.testBit_two_pow] at hb
                have : e.on = i := by simpa using hb
                rw [← this]; exact hXe
              · cases hg : acc[e.on]? with
                | none => simp [List.getD_eq_getElem?_getD, hg] at hb
                | some m' =>
                  simp only [List.getD_eq_getElem?_getD, hg, Option.getD_some] at hb
                  exact hacc e.on m' hg i hb hXe
            · exact hs hb
        rw [hm] at hi
        exact key _ 0 (fun e he => by simpa using he) (by simp) hi

theorem masks_length : ∀ (l : List Oper) (acc : List Nat), (masks l acc).length = acc.length + l.length := by
  intro l
  induction l with
  | nil => intro acc; rfl
  | cons o os ih => intro acc; simp only [masks, ih, List.length_append, List.length_cons, List.length_nil]; omega

theorem ov_none {α β : Type} : ∀ (us : List (α → Option β)) (k : Nat) (f : α → β), ov f us (fun _ => false) k = f := by
  intro us
  induction us with
  | nil => intro k f; rfl
  | cons w us ih => intro k f; simp only [ov, Bool.false_eq_true, if_false]; exact ih _ _

theorem ov_step {α β : Type} (t : α) (us : List (α → Option β)) (f : α → β) (X : Nat → Bool) (i : Nat) (u : α → Option β) (hi : us[i]? = some u)
    (hu : ∀ b, u t = some b → ∀ (j : Nat) w, i < j → us[j]? = some w → w t ≠ none → X j = false) : ov f us (fun j => if j = i then true else X j) 0 t = (u t).getD (ov f us X 0 t) := by
  cases hb : u t with
  | none =>
    simp only [Option.getD_none]
    refine ov_congr t _ _ _ 0 _ _ rfl (fun j w hj hw => ?_)
    by_cases hji : j = i
    · subst hji
      rw [hi] at hj
      exact absurd hb (by rw [Option.some.inj hj]; exact hw)
    · simp [hji]
  | some b =>
    simp only [Option.getD_some]
    refine ov_last t _ us 0 i f u b hi hb (by simp) (fun j w hij hj hw => ?_)
    have : ¬ 0 + j = i := by omega
    rw [if_neg this, Nat.zero_add]
    exact hu b hb j w hij hj hw

theorem lookR_mem : ∀ {l : List (Ref × Ob)} {r : Ref}, lookR l r ≠ none → r ∈ l.map (·.1) := by
  intro l
  induction l with
  | nil => intro r h; exact absurd rfl h
  | cons p l ih =>
    intro r h
    by_cases hp : r = p.1
    · simp [hp]
    · simp only [List.map_cons, List.mem_cons]
      right
      refine ih ?_
      simpa [lookR, hp] using h

theorem evAV_congr {env env' : Nat → AV} {o : Operand} (h : ∀ t, o = .tmp t → env t = env' t) : evAV env o = evAV env' o := by
  cases o with
  | tmp t => exact h t rfl
  | const c => rfl
  | func f => rfl
  | global g => rfl

section
variable {P : Program} {n : Nat} {ops : Array Oper} {Q : Exit → Act → World → Prop} {C : Ctx} {ss : List Step} {env env' : Nat → AV} {obs obs' : Ref → Option Ob}

/-- What is listed so far is closed, and the state is that of the steps listed. -/
theorem any_step (h : Chain P n ops ops.toList ss env obs env' obs') (hok : orderOk ops.toList ss = true) (hQ : ∀ M' a', Rel C n env' M' a' → M'.obs = obs' → Q .normal a' M'.w) :
    ∀ (fuel : Nat) (listed : Array Bool), listed.size = ops.size → (listed.toList.countP (· == true)) + fuel = ops.size →
      (∀ (j : Nat) o e, ops[j]? = some o → e ∈ o.after → Region.binds .any e = true → listed.getD j false = true → listed.getD e.on false = true) →
      ∀ (M : Mem) (a : Act), Rel C n (ov env ((ops.toList.zip ss).map uE) (fun j => listed.getD j false) 0) M a → M.obs = ov obs ((ops.toList.zip ss).map uO) (fun j => listed.getD j false) 0 →
      wpAny P .any ops Q fuel listed a M.w := by
  obtain ⟨hl, hE, hO, hat⟩ := h.at
  have hlen : ss.length = ops.size := by rw [← hl]; simp
  simp only [orderOk, Bool.and_eq_true] at hok
  -- all listed
  have hall : ∀ (listed : Array Bool), listed.size = ops.size → (∀ j, j < ops.size → listed.getD j false = true) → ∀ (M : Mem) (a : Act),
      Rel C n (ov env ((ops.toList.zip ss).map uE) (fun j => listed.getD j false) 0) M a → M.obs = ov obs ((ops.toList.zip ss).map uO) (fun j => listed.getD j false) 0 → Q .normal a M.w := by
    intro listed _ hall M a hR ho
    refine hQ M a ?_ ?_
    · have : ov env ((ops.toList.zip ss).map uE) (fun j => listed.getD j false) 0 = env' := by
        rw [hE]
        funext t
        refine ov_congr t _ _ _ 0 _ _ rfl (fun j u hj _ => ?_)
        have := (List.getElem?_eq_some_iff.1 hj).1
        rw [Nat.zero_add, hall j (by simp [hlen] at this; omega)]
      rwa [this] at hR
    · rw [ho, hO]
      funext r
      refine ov_congr r _ _ _ 0 _ _ rfl (fun j u hj _ => ?_)
      have := (List.getElem?_eq_some_iff.1 hj).1
      rw [Nat.zero_add, hall j (by simp [hlen] at this; omega)]
  -- nothing ready: all listed
  have hready : ∀ (listed : Array Bool), listed.size = ops.size → Region.ready .any ops listed = [] → ∀ j, j < ops.size → listed.getD j false = true := by
    intro listed hs hr j
    induction j using Nat.strongRecOn with
    | _ j ih =>
      intro hj
      cases hb : listed.getD j false with
      | true => rfl
      | false =>
        exfalso
        have hmem : j ∈ Region.ready .any ops listed := by
          unfold Region.ready
          refine List.mem_filter.2 ⟨List.mem_range.2 hj, ?_⟩
          have h1 : listed.getD j true = false := by
            have hjl : j < listed.size := by omega
            simp [Array.getD_eq_getD_getElem?, hjl] at hb ⊢
            exact hb
          have hoj : ops[j]? = some ops[j] := by simp [hj]
          simp only [h1, Bool.not_false, Bool.true_and, hoj, Option.map_some, Option.getD_some]
          rw [Array.all_eq_true_iff_forall_mem]
          intro e he
          by_cases hbd : Region.binds .any e = true
          · have hlt := edgesOk_get _ 0 hok.2 j ops[j] e (by simp [hj]) he hbd
            rw [Nat.zero_add] at hlt
            simp [ih e.on hlt (by omega)]
          · simp [hbd]
        rw [hr] at hmem
        cases hmem
  intro fuel
  induction fuel with
  | zero =>
    intro listed hs hc hcl M a hR ho
    have hallt : ∀ j, j < ops.size → listed.getD j false = true := by
      intro j hj
      have hcl2 : listed.toList.countP (· == true) = listed.toList.length := by
        rw [Array.length_toList]
        exact (Nat.add_zero _).symm.trans (hc.trans hs.symm)
      have := List.countP_eq_length.1 hcl2
      have hjl : j < listed.size := by omega
      have := this listed[j] (by simp)
      simp [Array.getD_eq_getD_getElem?, hjl]
      simpa using this
    refine ⟨?_, hall listed hs hallt M a hR ho⟩
    unfold Region.ready
    refine List.filter_eq_nil_iff.2 fun j hj => ?_
    have hjl : j < ops.size := List.mem_range.1 hj
    have := hallt j hjl
    have h1 : listed.getD j true = true := by
      have hjs : j < listed.size := by omega
      simp [Array.getD_eq_getD_getElem?, hjs] at this ⊢
      exact this
    simp [h1]
  | succ fuel ih =>
    intro listed hs hc hcl M a hR ho
    refine ⟨fun hr => hall listed hs (hready listed hs hr) M a hR ho, fun i hi => ?_⟩
    obtain ⟨him, hif⟩ := List.mem_filter.1 hi
    have hil : i < ops.size := List.mem_range.1 him
    have hoi : ops[i]? = some ops[i] := by simp [hil]
    have hsi : ss[i]? = some (ss[i]'(by omega)) := List.getElem?_eq_getElem (by omega)
    rw [hoi] at hif
    simp only [Option.map_some, Option.getD_some, Bool.and_eq_true, Bool.not_eq_true'] at hif
    obtain ⟨hnl, hpre⟩ := hif
    have hnl' : listed.getD i false = false := by
      have hjs : i < listed.size := by omega
      simp [Array.getD_eq_getD_getElem?, hjs] at hnl ⊢
      exact hnl
    have hpre' : ∀ e ∈ ops[i].after, Region.binds .any e = true → listed.getD e.on false = true := by
      intro e he hb
      have := (Array.all_eq_true_iff_forall_mem.1 hpre) e he
      simpa [hb] using this
    obtain ⟨hg, hn, hRd, hNw⟩ := hat i ops[i] (ss[i]'(by omega)) (by simp [hil]) hsi
    -- how i stands to another operation
    have hpair : ∀ (j : Nat), j ≠ i → ∀ oj sj, ops[j]? = some oj → ss[j]? = some sj →
        (listed.getD j false = decide (j < i)) ∨ (indep ops[i] oj (ss[i]'(by omega)) sj = true ∨ indep oj ops[i] sj (ss[i]'(by omega)) = true) := by
      intro j hji oj sj hoj hsj
      have hjl : j < ops.size := (Array.getElem?_eq_some_iff.1 hoj).1
      have hml : (masks ops.toList []).length = ops.size := by simp [masks_length]
      have hz : ∀ (k : Nat) (o : Oper) (s : Step), ops[k]? = some o → ss[k]? = some s → ∃ m, (masks ops.toList [])[k]? = some m ∧ (ops.toList.zip (ss.zip (masks ops.toList [])))[k]? = some (o, s, m) := by
        intro k o s ho hs
        have hk : k < ops.size := (Array.getElem?_eq_some_iff.1 ho).1
        refine ⟨(masks ops.toList [])[k]'(by omega), List.getElem?_eq_getElem (by omega), ?_⟩
        rw [List.getElem?_zip_eq_some]
        refine ⟨by simpa using ho, ?_⟩
        rw [List.getElem?_zip_eq_some]
        exact ⟨hs, List.getElem?_eq_getElem (by omega)⟩
      obtain ⟨mi, hmi, hzi⟩ := hz i _ _ hoi hsi
      obtain ⟨mj, hmj, hzj⟩ := hz j _ _ hoj hsj
      rcases Nat.lt_or_ge j i with hlt | hge
      · rcases pairsOk_get _ 0 hok.1 j i _ _ hlt hzj hzi with hbt | hd
        · left
          rw [Nat.zero_add] at hbt
          -- j is listed, for i waits for it
          have hcl' := masks_closed (X := fun k => if k = i then true else listed.getD k false) (all := ops.toList) (by
            intro k o e hk he hb hX
            have hk : ops[k]? = some o := by simpa using hk
            by_cases hki : k = i
            · subst hki
              rw [hoi] at hk
              have := Option.some.inj hk
              subst this
              have := hpre' e he hb
              simp [this]
            · simp only [hki, if_false] at hX
              have := hcl k o e hk he hb hX
              simp [this]) ops.toList [] (by simp) (by simp) i _ hmi j hbt (by simp)
          simp only [show ¬ j = i from hji, if_false] at hcl'
          rw [hcl']
          simp [hlt]
        · exact .inr (.inr hd)
      · have hlt : i < j := by omega
        rcases pairsOk_get _ 0 hok.1 i j _ _ hlt hzi hzj with hbt | hd
        · left
          rw [Nat.zero_add] at hbt
          have : ¬ j < i := by omega
          simp only [this, decide_false]
          cases hX : listed.getD j false with
          | false => rfl
          | true =>
            have := masks_closed (X := fun k => listed.getD k false) (all := ops.toList) (fun k o e hk he hb hX => hcl k o e (by simpa using hk) he hb hX) ops.toList [] (by simp) (by simp) j _ hmj i hbt hX
            rw [hnl'] at this
            exact this.symm
        · exact .inr (.inl hd)
    generalize hsv : ss[i]'(by omega) = si at *
    have husE : ∀ (j : Nat) u, ((ops.toList.zip ss).map uE)[j]? = some u → ∃ oj sj, ops[j]? = some oj ∧ ss[j]? = some sj ∧ u = uE (oj, sj) := by
      intro j u hj
      rw [List.getElem?_map, Option.map_eq_some_iff] at hj
      obtain ⟨⟨oj, sj⟩, hz, hu⟩ := hj
      rw [List.getElem?_zip_eq_some] at hz
      exact ⟨oj, sj, by simpa using hz.1, hz.2, hu.symm⟩
    have husO : ∀ (j : Nat) u, ((ops.toList.zip ss).map uO)[j]? = some u → ∃ oj sj, ops[j]? = some oj ∧ ss[j]? = some sj ∧ u = uO (oj, sj) := by
      intro j u hj
      rw [List.getElem?_map, Option.map_eq_some_iff] at hj
      obtain ⟨⟨oj, sj⟩, hz, hu⟩ := hj
      rw [List.getElem?_zip_eq_some] at hz
      exact ⟨oj, sj, by simpa using hz.1, hz.2, hu.symm⟩
    have hdst : ∀ {oj : Oper} {sj : Step} {t : Nat}, uE (oj, sj) t ≠ none → oj.dst = some t := by
      intro oj sj t h
      unfold uE at h
      split at h
      · assumption
      · exact absurd rfl h
    have hwk : ∀ {oj : Oper} {sj : Step} {r : Ref}, uO (oj, sj) r ≠ none → r ∈ wkeys sj := by
      intro oj sj r h
      refine lookR_mem ?_
      intro h'
      exact h (by simp [uO, h'])
    have agree : ∀ t, t ∈ needT si → ov env ((ops.toList.zip ss).map uE) (fun j => listed.getD j false) 0 t = ov env (((ops.toList.zip ss).map uE).take i) (fun _ => true) 0 t := by
      intro t ht
      rw [← ov_take]
      refine ov_congr t _ _ _ 0 _ _ rfl (fun j u hj hu => ?_)
      obtain ⟨oj, sj, hoj, hsj, rfl⟩ := husE j u hj
      rw [Nat.zero_add, Nat.zero_add]
      by_cases hji : j = i
      · subst hji; rw [hnl']; simp
      · rcases hpair j hji oj sj hoj hsj with h | h | h
        · exact h
        · simp only [indep, Bool.and_eq_true, hdst hu] at h
          simp [ht] at h
        · simp only [indep, Bool.and_eq_true, hdst hu] at h
          simp [ht] at h
    have agreeO : ∀ r, r ∈ rkeys si → ov obs ((ops.toList.zip ss).map uO) (fun j => listed.getD j false) 0 r = ov obs (((ops.toList.zip ss).map uO).take i) (fun _ => true) 0 r := by
      intro r hr
      rw [← ov_take]
      refine ov_congr r _ _ _ 0 _ _ rfl (fun j u hj hu => ?_)
      obtain ⟨oj, sj, hoj, hsj, rfl⟩ := husO j u hj
      rw [Nat.zero_add, Nat.zero_add]
      by_cases hji : j = i
      · subst hji; rw [hnl']; simp
      · rcases hpair j hji oj sj hoj hsj with h | h | h
        · exact h
        · simp only [indep, Bool.and_eq_true] at h
          have := List.all_eq_true.1 h.2 r (hwk hu)
          simp [hr] at this
        · simp only [indep, Bool.and_eq_true] at h
          have := List.all_eq_true.1 h.1.2 r (hwk hu)
          simp [hr] at this
    have hset : ∀ j, (listed.setIfInBounds i true).getD j false = (if j = i then true else listed.getD j false) := by
      intro j
      by_cases hji : j = i
      · subst hji
        have : j < listed.size := by omega
        simp [Array.getD_eq_getD_getElem?, this]
      · have : ¬ i = j := fun e => hji e.symm
        simp [Array.getD_eq_getD_getElem?, this, hji]
    have hzE : ∀ {γ : Type} (f : Oper × Step → γ), ((ops.toList.zip ss).map f)[i]? = some (f (ops[i], si)) := by
      intro γ f
      rw [List.getElem?_map, Option.map_eq_some_iff]
      exact ⟨_, List.getElem?_zip_eq_some.2 ⟨by simp [hil], hsi⟩, rfl⟩
    have hgoal : ∀ M' a', Rel C n (updD (ov env ((ops.toList.zip ss).map uE) (fun j => listed.getD j false) 0) ops[i].dst si.v) M' a' → M'.obs = updAll M.obs si.U →
        wpAny P .any ops Q fuel (listed.setIfInBounds i true) a' M'.w := by
      intro M' a' hR' ho'
      refine ih _ (by simpa using hs) ?_ (fun j o e hj he hb hX => ?_) M' a' ?_ ?_
      · rw [Array.toList_setIfInBounds, List.countP_set (by rw [Array.length_toList]; omega)]
        have : listed.toList[i]'(by rw [Array.length_toList]; omega) = false := by
          have hjs : i < listed.size := by omega
          simp [Array.getD_eq_getD_getElem?, hjs] at hnl' ⊢
          exact hnl'
        rw [this]
        simp only [beq_iff_eq, Bool.false_eq_true, if_false, if_true]
        omega
      · rw [hset] at hX ⊢
        by_cases hji : j = i
        · subst hji
          rw [hoi] at hj
          have := Option.some.inj hj
          subst this
          rw [hpre' e he hb]
          simp
        · rw [if_neg hji] at hX
          rw [hcl j o e hj he hb hX]
          simp
      · have : ov env ((ops.toList.zip ss).map uE) (fun j => (listed.setIfInBounds i true).getD j false) 0 = updD (ov env ((ops.toList.zip ss).map uE) (fun j => listed.getD j false) 0) ops[i].dst si.v := by
          funext t
          rw [updD_uE _ (ops[i], si)]
          simp only [hset]
          refine ov_step t _ _ _ i _ (hzE _) (fun b hb j w hij hj hw => ?_)
          obtain ⟨oj, sj, hoj, hsj, rfl⟩ := husE j w hj
          rcases hpair j (by omega) oj sj hoj hsj with h | h | h
          · rw [h]; simp; omega
          · simp [indep, hdst hw, hdst (show uE (ops[i], si) t ≠ none by rw [hb]; simp)] at h
          · simp [indep, hdst hw, hdst (show uE (ops[i], si) t ≠ none by rw [hb]; simp)] at h
        rw [this]
        exact hR'
      · rw [ho', ho]
        funext t
        rw [updAll_uO _ (ops[i], si)]
        simp only [hset]
        refine (ov_step t _ _ _ i _ (hzE _) (fun b hb j w hij hj hw => ?_)).symm
        obtain ⟨oj, sj, hoj, hsj, rfl⟩ := husO j w hj
        have hti : t ∈ wkeys si := hwk (show uO (ops[i], si) t ≠ none by rw [hb]; simp)
        rcases hpair j (by omega) oj sj hoj hsj with h | h | h
        · rw [h]; simp; omega
        · exfalso
          simp only [indep, Bool.and_eq_true] at h
          have := List.all_eq_true.1 h.1.2 t hti
          have hm : t ∈ rkeys sj := List.mem_append_right _ (hwk hw)
          simp [hm] at this
        · exfalso
          simp only [indep, Bool.and_eq_true] at h
          have := List.all_eq_true.1 h.2 t hti
          have hm : t ∈ rkeys sj := List.mem_append_right _ (hwk hw)
          simp [hm] at this
    have := hg C _ M a (wpAny P .any ops Q fuel (listed.setIfInBounds i true)) Q hR (fun p hp => ?_) (fun p hp => ?_) (fun r hr => ?_) hgoal
    · unfold wpOp
      rw [hoi]
      exact this
    · rw [← hn p hp]
      refine evAV_congr fun t ht => agree t (List.mem_filterMap.2 ⟨p, hp, by rw [ht]⟩)
    · rw [ho, agreeO p.1 (List.mem_append_left _ (List.mem_append_left _ (List.mem_map.2 ⟨p, hp, rfl⟩)))]
      exact hRd p hp
    · rw [ho, agreeO r (List.mem_append_left _ (List.mem_append_right _ hr))]
      exact hNw r hr

theorem region_any (hm : P.follows .mixedOrders = true) {id : Nat} (h : Chain P n ops ops.toList ss env obs env' obs') (hok : orderOk ops.toList ss = true) (M : Mem) (a : Act) (hR : Rel C n env M a) (ho : M.obs = obs)
    (hQ : ∀ M' a', Rel C n env' M' a' → M'.obs = obs' → Q .normal a' M'.w) : (Code.region id ops true).wp P Q a M.w := by
  refine wp_region_any hm ?_
  obtain ⟨hst, hok1⟩ := hR.mem.same (w' := { M.w with drawn := M.w.drawn + 1 }) rfl rfl rfl rfl
  have hR1 : Rel C n env ⟨M.obs, M.mu, M.Pr, { M.w with drawn := M.w.drawn + 1 }⟩ a := ⟨hR.size, hR.defers, fun t => hst.repV (hR.env t), hok1⟩
  have hno : ∀ j, (Array.replicate ops.size false).getD j false = false := by
    intro j
    by_cases hj : j < ops.size <;> simp [Array.getD_eq_getD_getElem?, hj]
  refine any_step h hok hQ ops.size _ (by simp) ?_ (fun j o e _ _ _ hX => by rw [hno] at hX; cases hX) ⟨M.obs, M.mu, M.Pr, { M.w with drawn := M.w.drawn + 1 }⟩ a ?_ ?_
  · simp
  · have : ov env ((ops.toList.zip ss).map uE) (fun j => (Array.replicate ops.size false).getD j false) 0 = env := by
      simp only [hno]
      exact ov_none _ _ _
    rwa [this]
  · show M.obs = _
    rw [ho]
    simp only [hno]
    exact (ov_none _ _ _).symm
end

end Go.Sim
