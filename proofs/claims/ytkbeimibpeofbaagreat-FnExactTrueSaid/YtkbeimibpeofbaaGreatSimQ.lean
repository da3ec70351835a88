/- Regions: in the order of the text, and in whatever order their edges allow. -/
import Derived.Test.YtkbeimibpeofbaaGreatSimP
namespace Go.Sim

def GStep (P : Program) (n : Nat) (ops : Array Oper) (o : Oper) (s : Step) : Prop :=
  ∀ (C : Ctx) (env : Nat → AV) (M : Mem) (a : Act) (K : Act → World → Prop) (Q : Exit → Act → World → Prop), Rel C n env M a →
    (∀ p ∈ s.need, evAV env p.1 = p.2) → (∀ p ∈ s.R, M.obs p.1 = some p.2) → (∀ r ∈ s.Nw, M.obs r = none) →
    (∀ M' a', Rel C n (updD env o.dst s.v) M' a' → M'.obs = updAll M.obs s.U → K a' M'.w) →
    if Region.wanted o (yielded ops a.tmps) then o.wp P a M.w K Q ∨ (o.asks P a M.w ∧ LetsOut Q) else K (a.put o.dst undef) M.w

theorem GStep.run {P : Program} {n : Nat} {ops : Array Oper} {o : Oper} {s : Step} (hg : o.guard = none) (h : LStep P n o s) : GStep P n ops o s := by
  intro C env M a K Q hR h1 h2 h3 hK
  rw [if_pos (by simp [Region.wanted, hg])]
  exact .inl (h C env M a K Q hR h1 h2 h3 hK)

theorem yielded_of {C : Ctx} {n : Nat} {env : Nat → AV} {M : Mem} {a : Act} (hR : Rel C n env M a) {ops : Array Oper} {j d : Nat} {oj : Oper} {b : Bool} (hj : ops[j]? = some oj) (hd : oj.dst = some d) (hn : d < n)
    (he : env d = .bool b) : yielded ops a.tmps j = some b := by
  have hv := hR.env d
  rw [he] at hv
  have hv := rep_bool hv
  have hlt : d < a.tmps.size := by rw [hR.size]; exact hn
  have hg : a.tmps[d]? = some (.bool b) := by
    rw [← hv]
    exact arr_getD hlt
  simp [yielded, hj, hd, hg]

theorem GStep.guarded {P : Program} {n : Nat} {ops : Array Oper} {o : Oper} {s : Step} {j d : Nat} {b : Bool} {oj : Oper} (hg : o.guard = some (j, b)) (hj : ops[j]? = some oj) (hd : oj.dst = some d) (hn : d < n)
    (hb : (Operand.tmp d, AV.bool b) ∈ s.need) (h : LStep P n o s) : GStep P n ops o s := by
  intro C env M a K Q hR h1 h2 h3 hK
  rw [if_pos (by simp [Region.wanted, hg, yielded_of hR hj hd hn (h1 _ hb)])]
  exact .inl (h C env M a K Q hR h1 h2 h3 hK)

theorem GStep.unwanted {P : Program} {n : Nat} {ops : Array Oper} {o : Oper} {j d : Nat} {b : Bool} {oj : Oper} (hg : o.guard = some (j, b)) (hj : ops[j]? = some oj) (hd : oj.dst = some d) (hn : d < n)
    (hdn : ∀ d, o.dst = some d → d < n) : GStep P n ops o ⟨[(.tmp d, .bool (!b))], [], [], .junk, []⟩ := by
  intro C env M a K Q hR h1 _ _ hK
  rw [if_neg (by simp [Region.wanted, hg, yielded_of hR hj hd hn (h1 _ (.head _))])]
  exact hK M _ (hR.put (Stab.refl M) hR.mem hdn trivial) rfl

/-- The steps of some operations, one behind the other. -/
inductive Chain (P : Program) (n : Nat) (ops : Array Oper) : List Oper → List Step → (Nat → AV) → (Ref → Option Ob) → (Nat → AV) → (Ref → Option Ob) → Prop
  | nil (env obs) : Chain P n ops [] [] env obs env obs
  | cons {o rest s ss env obs env' obs'} (hg : GStep P n ops o s) (h1 : ∀ p ∈ s.need, evAV env p.1 = p.2) (h2 : ∀ p ∈ s.R, obs p.1 = some p.2) (h3 : ∀ r ∈ s.Nw, obs r = none)
      (h : Chain P n ops rest ss (updD env o.dst s.v) (updAll obs s.U) env' obs') : Chain P n ops (o :: rest) (s :: ss) env obs env' obs'

theorem Chain.wp {P : Program} {n : Nat} {ops : Array Oper} {Q : Exit → Act → World → Prop} {C : Ctx} : ∀ {l : List Oper} {ss : List Step} {env env' : Nat → AV} {obs obs' : Ref → Option Ob},
    Chain P n ops l ss env obs env' obs' → ∀ (M : Mem) (a : Act), Rel C n env M a → M.obs = obs → (∀ M' a', Rel C n env' M' a' → M'.obs = obs' → Q .normal a' M'.w) → wpList P ops Q l a M.w := by
  intro l ss env env' obs obs' h
  induction h with
  | nil env obs => intro M a hR ho hQ; exact hQ M a hR ho
  | cons hg h1 h2 h3 h ih =>
    intro M a hR ho hQ
    subst ho
    exact hg C _ M a _ Q hR h1 h2 h3 (fun M' a' hR' ho' => ih M' a' hR' ho' hQ)

theorem region_seq {P : Program} {n : Nat} {ops : Array Oper} {Q : Exit → Act → World → Prop} {C : Ctx} {id : Nat} {ss : List Step} {env env' : Nat → AV} {obs obs' : Ref → Option Ob}
    (h : Chain P n ops ops.toList ss env obs env' obs') (M : Mem) (a : Act) (hR : Rel C n env M a) (ho : M.obs = obs) (hQ : ∀ M' a', Rel C n env' M' a' → M'.obs = obs' → Q .normal a' M'.w) :
    (Code.region id ops false).wp P Q a M.w := wp_region_list (h.wp M a hR ho hQ)

/-! ### Any order -/
def ov {α β : Type} (f : α → β) : List (α → Option β) → (Nat → Bool) → Nat → α → β
  | [], _, _ => f
  | u :: us, X, k => ov (fun t => if X k then (u t).getD (f t) else f t) us X (k + 1)

theorem ov_congr {α β : Type} (t : α) (X Y : Nat → Bool) : ∀ (us : List (α → Option β)) (k : Nat) (f g : α → β), f t = g t → (∀ (j : Nat) u, us[j]? = some u → u t ≠ none → X (k + j) = Y (k + j)) →
    ov f us X k t = ov g us Y k t := by
  intro us
  induction us with
  | nil => intro k f g h _; exact h
  | cons u us ih =>
    intro k f g h hX
    simp only [ov]
    refine ih (k + 1) _ _ ?_ (fun j v hj hv => by have := hX (j + 1) v (by simpa using hj) hv; rwa [show k + (j + 1) = k + 1 + j from by omega] at this)
    cases hu : u t with
    | none => simp [h]
    | some b =>
      have := hX 0 u rfl (by simp [hu])
      simp only [Nat.add_zero] at this
      rw [this, h]

theorem ov_last {α β : Type} (t : α) (X : Nat → Bool) : ∀ (us : List (α → Option β)) (k i : Nat) (f : α → β) (u : α → Option β) (b : β), us[i]? = some u → u t = some b → X (k + i) = true →
    (∀ (j : Nat) v, i < j → us[j]? = some v → v t ≠ none → X (k + j) = false) → ov f us X k t = b := by
  intro us
  induction us with
  | nil => intro k i f u b h; simp at h
  | cons v us ih =>
    intro k i f u b hi hu hX hl
    cases i with
    | zero =>
      have hi : v = u := by simpa using hi
      subst hi
      have : ov f (v :: us) X k t = ov (fun _ => b) us (fun _ => false) (k + 1) t := by
        simp only [ov]
        refine ov_congr t _ _ us (k + 1) _ _ (by simp only [Nat.add_zero] at hX; simp [hX, hu]) (fun j w hj hw => ?_)
        have := hl (j + 1) w (by omega) (by simpa using hj) hw
        rwa [show k + (j + 1) = k + 1 + j from by omega] at this
      rw [this]
      have key : ∀ (us : List (α → Option β)) (k : Nat) (f : α → β), ov f us (fun _ => false) k = f := by
        intro us
        induction us with
        | nil => intro k f; rfl
        | cons w us ih => intro k f; simp only [ov, Bool.false_eq_true, if_false]; exact ih _ _
      rw [key]
    | succ i =>
      simp only [ov]
      exact ih (k + 1) i _ u b (by simpa using hi) hu (by rw [← hX]; congr 1; omega) (fun j w hij hj hw => by
        have := hl (j + 1) w (by omega) (by simpa using hj) hw
        rwa [show k + (j + 1) = k + 1 + j from by omega] at this)

theorem ov_take {α β : Type} (t : α) (f : α → β) : ∀ (us : List (α → Option β)) (k m : Nat), ov f us (fun j => decide (j < k + m)) k t = ov f (us.take m) (fun _ => true) k t := by
  intro us
  induction us generalizing f with
  | nil => intro k m; simp [ov]
  | cons u us ih =>
    intro k m
    cases m with
    | zero =>
      have : ov f (u :: us) (fun j => decide (j < k + 0)) k t = ov f (u :: us) (fun _ => false) k t := ov_congr t _ _ _ k f f rfl (fun j w _ _ => by simp)
      rw [this]
      have key : ∀ (us : List (α → Option β)) (k : Nat) (f : α → β), ov f us (fun _ => false) k = f := by
        intro us
        induction us with
        | nil => intro k f; rfl
        | cons w us ih => intro k f; simp only [ov, Bool.false_eq_true, if_false]; exact ih _ _
      rw [key]
      rfl
    | succ m =>
      simp only [ov, List.take_succ_cons]
      have h1 : (fun t => if decide (k < k + (m + 1)) = true then (u t).getD (f t) else f t) = fun t => (u t).getD (f t) := by
        funext t
        rw [if_pos (by simp)]
      rw [h1, show k + (m + 1) = k + 1 + m from by omega]
      simpa using ih (fun t => (u t).getD (f t)) (k + 1) m

def uE (p : Oper × Step) (t : Nat) : Option AV := if p.1.dst = some t then some p.2.v else none
def uO (p : Oper × Step) (r : Ref) : Option (Option Ob) := (lookR p.2.U r).map some

theorem updD_uE (env : Nat → AV) (p : Oper × Step) : updD env p.1.dst p.2.v = fun t => (uE p t).getD (env t) := by
  funext t
  unfold uE
  cases hd : p.1.dst with
  | none => simp [updD]
  | some d =>
    by_cases h : t = d
    · subst h; simp [updD, upd]
    · have : ¬ d = t := fun e => h e.symm
      simp [updD, upd, h, this]

theorem updAll_uO (obs : Ref → Option Ob) (p : Oper × Step) : updAll obs p.2.U = fun r => (uO p r).getD (obs r) := by
  funext r
  unfold uO updAll
  cases lookR p.2.U r <;> rfl

theorem Chain.at {P : Program} {n : Nat} {ops : Array Oper} : ∀ {l : List Oper} {ss : List Step} {env env' : Nat → AV} {obs obs' : Ref → Option Ob}, Chain P n ops l ss env obs env' obs' →
    l.length = ss.length ∧ env' = ov env ((l.zip ss).map uE) (fun _ => true) 0 ∧ obs' = ov obs ((l.zip ss).map uO) (fun _ => true) 0 ∧
    ∀ (i : Nat) o s, l[i]? = some o → ss[i]? = some s → GStep P n ops o s ∧
      (∀ p ∈ s.need, evAV (ov env (((l.zip ss).map uE).take i) (fun _ => true) 0) p.1 = p.2) ∧
      (∀ p ∈ s.R, ov obs (((l.zip ss).map uO).take i) (fun _ => true) 0 p.1 = some p.2) ∧ (∀ r ∈ s.Nw, ov obs (((l.zip ss).map uO).take i) (fun _ => true) 0 r = none) := by
  have shift : ∀ {α β : Type} (us : List (α → Option β)) (f : α → β) (k : Nat), ov f us (fun _ => true) k = ov f us (fun _ => true) 0 := by
    intro α β us
    induction us with
    | nil => intro f k; rfl
    | cons u us ih => intro f k; simp only [ov]; rw [ih _ (k + 1), ih _ (0 + 1)]
  intro l ss env env' obs obs' h
  induction h with
  | nil env obs => exact ⟨rfl, rfl, rfl, fun i o s hi => by simp at hi⟩
  | @cons o rest s ss env obs env' obs' hg h1 h2 h3 h ih =>
    obtain ⟨hl, he, ho, hs⟩ := ih
    have hE : ∀ us, ov env (uE (o, s) :: us) (fun _ => true) 0 = ov (updD env o.dst s.v) us (fun _ => true) 0 := fun us => by
      simp only [ov, if_true]
      rw [shift, updD_uE env (o, s)]
    have hO : ∀ us, ov obs (uO (o, s) :: us) (fun _ => true) 0 = ov (updAll obs s.U) us (fun _ => true) 0 := fun us => by
      simp only [ov, if_true]
      rw [shift, updAll_uO obs (o, s)]
    refine ⟨by simp [hl], ?_, ?_, fun i o' s' hi hsi => ?_⟩
    · simp only [List.zip_cons_cons, List.map_cons]; rw [hE]; exact he
    · simp only [List.zip_cons_cons, List.map_cons]; rw [hO]; exact ho
    · cases i with
      | zero =>
        have hi : o = o' := by simpa using hi
        have hsi : s = s' := by simpa using hsi
        subst hi hsi
        exact ⟨hg, h1, h2, h3⟩
      | succ i =>
        have := hs i o' s' (by simpa using hi) (by simpa using hsi)
        simp only [List.zip_cons_cons, List.map_cons, List.take_succ_cons]
        rw [hE, hO]
        exact this

end Go.Sim
