/- The abstract machine's steps are the machine's: all operations; regions. -/
import Derived.Test.YtkbeimibpeofbaaGreatSimV
namespace Go.Sim

section
variable {P : Program} {n : Nat} {o : Oper} {env : Nat → AV} {obs : Ref → Option Ob} {s : Step}

theorem isNone_eq {r : Ref} (h : (obs r).isNone = true) : obs r = none := by cases hm : obs r <;> simp [hm] at h ⊢

theorem stepOp_good (hd : ∀ d, o.dst = some d → d < n) {cfg : Cfg} (hTb : TabOk P cfg.tab) {fi : FuncId} {call : FuncId → List AV → List Ob → Option (AV × List Ob)}
    (hcall : ∀ f args outs r, call f args outs = some r → Does P f args outs r.1 r.2) (h : stepOp cfg fi env obs call o = some s) : Good P n env obs o s := by
  unfold stepOp at h
  simp only at h
  split at h
  · rename_i x ho
    have := Option.some.inj h
    subst this
    exact ⟨ls_move hd (.inl ho), by simp, by simp, by simp⟩
  · rename_i x ho
    have := Option.some.inj h
    subst this
    exact ⟨ls_move hd (.inr ho), by simp, by simp, by simp⟩
  · rename_i c x y ho
    split at h
    · rename_i b hc
      have := Option.some.inj h
      subst this
      exact ⟨ls_pick (b := b) hd ho _ (by simp) (by simp), by simp [hc], by simp, by simp⟩
    · cases h
  · rename_i op t x y t' ho
    obtain ⟨v, hv, rfl⟩ := Option.map_eq_some_iff.1 h
    exact ⟨ls_binOp hd hTb ho hv, by simp, by simp, by simp⟩
  · rename_i t x ho
    split at h
    · rename_i b hx
      have := Option.some.inj h
      subst this
      exact ⟨ls_not hd ⟨t, ho⟩, by simp [hx], by simp, by simp⟩
    · cases h
  · rename_i t x ho
    split at h
    · rename_i k i hx
      have := Option.some.inj h
      subst this
      exact ⟨ls_neg hd ⟨t, ho⟩, by simp [hx], by simp, by simp⟩
    · cases h
  · rename_i src dst x ho
    split at h
    · rename_i k i ti j hx hS hD
      have := Option.some.inj h
      subst this
      obtain ⟨tj, h1, h2⟩ := isIntT_some hD
      exact ⟨ls_convert_int hd (hTb.at hS) (hTb.at h1) h2 ho, by simp [hx], by simp, by simp⟩
    · cases h
  · rename_i x i ho
    split at h
    · rename_i vs hx
      split at h
      · rename_i v hi
        have := Option.some.inj h
        subst this
        exact ⟨ls_extract hd ho hi, by simp [hx], by simp, by simp⟩
      · cases h
    · cases h
  · rename_i x ho
    split at h
    · rename_i r off hx
      have := Option.some.inj h
      subst this
      exact ⟨ls_nilCheck hd ho (.inl rfl), by simp [hx], by simp, by simp⟩
    · rename_i cells off hx
      have := Option.some.inj h
      subst this
      exact ⟨ls_nilCheck hd ho (.inl rfl), by simp [hx], by simp, by simp⟩
    · rename_i f caps hx
      have := Option.some.inj h
      subst this
      exact ⟨ls_nilCheck hd ho (.inr ⟨f, caps, rfl⟩), by simp [hx], by simp, by simp⟩
    · cases h
  · rename_i f first captured ho
    split at h
    · rename_i rs hrs
      obtain ⟨hb, rfl⟩ := when_some h
      obtain ⟨h1, h2⟩ := capRefs_some hrs
      have hf : first = #[] := Array.eq_empty_of_size_eq_zero (by simpa using hb)
      subst hf
      refine ⟨ls_makeFunc hd ho _ _ h1 (fun j x r hx hr => List.mem_map.2 ⟨x, List.mem_of_getElem? hx, by rw [h2 j x r hx hr]⟩), ?_, by simp, by simp⟩
      intro p hp
      obtain ⟨q, _, rfl⟩ := List.mem_map.1 hp
      rfl
    · cases h
  · rename_i t ho
    split at h
    · rename_i ti hT
      obtain ⟨hb, rfl⟩ := when_some h
      exact ⟨ls_alloc hd (hTb.at hT) ho _, by simp, by simp, by simp [isNone_eq hb]⟩
    · cases h
  · rename_i t x ho
    split at h
    · rename_i xs hx
      obtain ⟨hb, rfl⟩ := when_some h
      exact ⟨ls_box hd ho hx _, by simp, by simp, by simp [isNone_eq hb]⟩
    · cases h
  · rename_i t x ho
    split at h
    · rename_i ti hT
      split at h
      · rename_i h0
        exact loadS_good hd (hTb.at hT) h0 ho h
      · cases h
    · cases h
  · rename_i t x y ho
    split at h
    · rename_i ti hT
      split at h
      · rename_i h0
        exact storeS_good (by cases hm : o.dst <;> simp [hm] at h0 ⊢) (hTb.at hT) ho h
      · cases h
    · cases h
  · rename_i t x i ho
    split at h
    · rename_i off fti hF
      exact fieldS_good hd hTb hF ho h
    · cases h
  · rename_i t x i ho
    split at h
    · rename_i off fti cells hF hx
      obtain ⟨hb, rfl⟩ := when_some h
      obtain ⟨ti, fs, ft, h1, h2, h3, h4, h5⟩ := fieldT_some hF
      exact ⟨ls_fieldV hd (hTb.at h1) h2 h3 (hTb.at h4) h5 ho (by simpa using hb), by simp [hx], by simp, by simp⟩
    · cases h
  · rename_i t x y ho
    split at h
    · rename_i e eti hE
      exact indexS_good hd hTb hE ho h
    · split at h
      · rename_i m eti hE
        exact indexArrS_good hd hTb hE ho h
      · cases h
  · rename_i t x y ho
    split at h
    · rename_i str k i hx hy
      obtain ⟨hb, rfl⟩ := when_some h
      simp only [Bool.and_eq_true, decide_eq_true_eq] at hb
      obtain ⟨ti, h1, h2⟩ := isStrT_some hb.1.1
      exact ⟨ls_index_str hd (hTb.at h1) h2 ho hb.1.2 hb.2, by simp [hx, hy], by simp, by simp⟩
    · cases h
  · rename_i t parts ho
    split at h
    · rename_i ti hT
      split at h
      · rename_i place ps hpl hps
        obtain ⟨hb, rfl⟩ := when_some h
        refine ⟨ls_build hd hTb hT ho place (placeOf_some hpl) hps (fillB_ok hb), ?_, by simp, by simp⟩
        intro p hp
        obtain ⟨q, _, rfl⟩ := List.mem_map.1 hp
        rfl
      · cases h
    · cases h
  · rename_i t len parts ho
    split at h
    · rename_i el eti hE
      exact buildSliceS_good hd hTb hE ho h
    · cases h
  · rename_i t x y ho
    split at h
    · rename_i el eti kx l ky c hE hx hy
      obtain ⟨ti, h1, h2, h3, h4⟩ := elemT_some hE
      obtain ⟨hb, rfl⟩ := when_some h
      simp only [Bool.and_eq_true, decide_eq_true_eq] at hb
      obtain ⟨⟨⟨⟨⟨hb1, hb2⟩, hb3⟩, hb4⟩, hb5⟩, hb6⟩ := hb
      exact ⟨ls_makeSlice hd (hTb.at h1) h2 (hTb.at h3) h4 ho hb2 hb3 hb4 hb5 (allP_of fun z hz => clB_ok (List.all_eq_true.1 hb6 z hz)) _ _, by simp [hx, hy], by simp, by simp [isNone_eq hb1]⟩
    · cases h
  · rename_i t x lo hi ho
    exact sliceS_good hd hTb ho h
  · rename_i c ho
    split at h
    · rename_i b hc
      exact builtinS_good hd hTb ho hc h
    · rename_i fo hc
      split at h
      · rename_i f caps hf
        exact callG'_good hd hcall ho hc hf h
      · cases h
    · cases h
  · cases h
end

/-! ### Regions -/
theorem look_cons (d : Nat) (v : AV) (l : List (Nat × AV)) (t : Nat) : envF ((d, v) :: l) t = upd (envF l) d v t := by
  unfold envF upd
  simp only [look]
  by_cases h : t = d <;> simp [h]

theorem envF_put (d : Option Nat) (v : AV) (l : List (Nat × AV)) : envF (putE d v l) = updD (envF l) d v := by
  cases d with
  | none => rfl
  | some d => funext t; exact look_cons d v l t

theorem lookR_putO (r : Ref) (o : Ob) : ∀ (l : List (Ref × Ob)) (q : Ref), lookR (putO r o l) q = if q = r then some o else lookR l q := by
  intro l
  induction l with
  | nil => intro q; simp only [putO, lookR]
  | cons p l ih =>
    intro q
    obtain ⟨p1, p2⟩ := p
    simp only [putO]
    by_cases hp : p1 = r
    · subst hp
      simp only [if_true, lookR]
      by_cases hq : q = p1 <;> simp [hq]
    · simp only [hp, if_false, lookR, ih]
      by_cases hq : q = p1
      · subst hq; simp [hp]
      · simp [hq]

theorem lookR_putAll : ∀ (U l : List (Ref × Ob)), lookR (putAll U l) = updAll (lookR l) U := by
  intro U
  induction U with
  | nil => intro l; rfl
  | cons p U ih =>
    intro l
    obtain ⟨r, o⟩ := p
    funext q
    simp only [putAll, lookR_putO]
    have := congrFun (ih l) q
    unfold updAll at this ⊢
    simp only [lookR]
    by_cases hq : q = r
    · simp [hq]
    · simp only [hq, if_false]
      exact this

theorem updE_same (env : Nat → AV) (d : Nat) : upd env d (env d) = env := by
  funext t
  by_cases h : t = d
  · subst h; simp [upd]
  · simp [upd, h]

theorem envF_rebG (ops : Array Oper) (o : Oper) (l : List (Nat × AV)) : envF (rebG ops o l) = envF l := by
  unfold rebG
  split
  · rfl
  · rename_i j b hg
    split
    · rename_i d y b' hy
      have he : envF l d = .bool b' := by
        unfold yieldA at hy
        split at hy
        · split at hy
          · split at hy
            · rename_i hb
              simp only [Option.some.injEq, Prod.mk.injEq] at hy
              obtain ⟨rfl, rfl, rfl⟩ := hy
              exact hb
            · simp at hy
            · cases hy
          · cases hy
        · cases hy
      split
      · rename_i hb
        subst hb
        funext t
        rw [look_cons, ← he, updE_same]
      · rename_i hb
        have hbb : b' = !b := by cases b <;> cases b' <;> simp at hb ⊢
        funext t
        rw [look_cons, ← hbb, ← he, updE_same]
    · rfl

theorem envF_rebC {c : Operand} {t : Bool} {st : St} (h : evAV (envF st.env) c = .bool t) : envF (rebC c t st).env = envF st.env := by
  cases c with
  | tmp d =>
    have h : envF st.env d = .bool t := h
    funext u
    show envF ((d, .bool t) :: st.env) u = _
    rw [look_cons, ← h, updE_same]
  | _ => rfl
theorem obs_rebC (c : Operand) (t : Bool) (st : St) : (rebC c t st).obs = st.obs := by cases c <;> rfl

section
variable {P : Program} {cfg : Cfg} {fi n : Nat} {call : FuncId → List AV → List Ob → Option (AV × List Ob)}

theorem dstOk_lt {o : Oper} (h : dstOk n o = true) : ∀ d, o.dst = some d → d < n := by
  intro d hd
  unfold dstOk at h
  rw [hd] at h
  simpa using h

theorem yieldA_env {ops : Array Oper} {env : Nat → AV} {j d : Nat} {y : AV} {b' : Option Bool} (hy : yieldA ops env j = some (d, y, b')) : env d = y ∧ ∃ oj, ops[j]? = some oj ∧ oj.dst = some d ∧ ((∃ b, y = .bool b ∧ b' = some b) ∨ (y = .tup [] ∧ b' = none)) := by
  unfold yieldA at hy
  split at hy
  · rename_i oj hj
    split at hy
    · rename_i d' hd
      split at hy
      · rename_i b hb
        simp only [Option.some.injEq, Prod.mk.injEq] at hy
        obtain ⟨rfl, rfl, rfl⟩ := hy
        exact ⟨hb, oj, hj, hd, .inl ⟨b, rfl, rfl⟩⟩
      · rename_i hb
        simp only [Option.some.injEq, Prod.mk.injEq] at hy
        obtain ⟨rfl, rfl, rfl⟩ := hy
        exact ⟨hb, oj, hj, hd, .inr ⟨rfl, rfl⟩⟩
      · cases hy
    · cases hy
  · cases hy

theorem yield_rel {C : Ctx} {env : Nat → AV} {M : Mem} {a : Act} (hR : Rel C n env M a) {ops : Array Oper} {j d : Nat} {oj : Oper} (hj : ops[j]? = some oj) (hd : oj.dst = some d) (hn : d < n) {y : AV} {b' : Option Bool}
    (hyb : (∃ b, y = .bool b ∧ b' = some b) ∨ (y = .tup [] ∧ b' = none)) (he : env d = y) : yielded ops a.tmps j = b' := by
  rcases hyb with ⟨b, rfl, rfl⟩ | ⟨rfl, rfl⟩
  · exact yielded_of hR hj hd hn he
  · have hv := hR.env d
    rw [he] at hv
    obtain ⟨us, hv, hs, _⟩ := hv
    have hlt : d < a.tmps.size := by rw [hR.size]; exact hn
    have hg : a.tmps[d]? = some (.tuple us) := by
      rw [← hv]
      exact arr_getD hlt
    simp [yielded, hj, hd, hg]

structure GoodG (P : Program) (n : Nat) (ops : Array Oper) (env : Nat → AV) (obs : Ref → Option Ob) (o : Oper) (s : Step) : Prop where
  step : GStep P n ops o s
  need : ∀ p ∈ s.need, evAV env p.1 = p.2
  read : ∀ p ∈ s.R, obs p.1 = some p.2
  new : ∀ r ∈ s.Nw, obs r = none

theorem stepG_good (hTb : TabOk P cfg.tab) (hcall : ∀ f args outs r, call f args outs = some r → Does P f args outs r.1 r.2) {ops : Array Oper} {o : Oper} {st : St} {s : Step} (h : stepG cfg fi n call ops o st = some s) :
    GoodG P n ops (envF st.env) (lookR st.obs) o s := by
  unfold stepG at h
  split at h
  · rename_i hdst
    have hd := dstOk_lt hdst
    split at h
    · rename_i hg
      obtain ⟨h1, h2, h3, h4⟩ := stepOp_good hd hTb hcall h
      exact ⟨.run hg h1, h2, h3, h4⟩
    · rename_i j b hg
      split at h
      · cases h
      · rename_i d y b' hy
        obtain ⟨he, oj, hj, hdj, hyb⟩ := yieldA_env hy
        split at h
        · rename_i hn
          split at h
          · rename_i hbb
            subst hbb
            obtain ⟨s', hs', rfl⟩ := Option.map_eq_some_iff.1 h
            obtain ⟨h1, h2, h3, h4⟩ := stepOp_good hd hTb hcall hs'
            refine ⟨fun C env' M a K Q hR k1 k2 k3 hK => ?_, fun p hp => ?_, h3, h4⟩
            · have hyl := yield_rel hR hj hdj hn hyb (k1 (.tmp d, y) (.head _))
              rw [if_pos (by simp [Region.wanted, hg, hyl])]
              exact .inl (h1 C env' M a K Q hR (fun p hp => k1 p (.tail _ hp)) k2 k3 hK)
            · rcases List.mem_cons.1 hp with rfl | hp
              · exact he
              · exact h2 p hp
          · rename_i hbb
            have := Option.some.inj h
            subst this
            refine ⟨fun C env' M a K Q hR k1 k2 k3 hK => ?_, by simp [evAV, he], by simp, by simp⟩
            have hyl := yield_rel hR hj hdj hn hyb (k1 (.tmp d, y) (.head _))
            rw [if_neg (by simp [Region.wanted, hg, hyl, hbb])]
            exact hK M _ (hR.put (Stab.refl M) hR.mem hd ⟨#[], rfl, rfl, fun j x hj => by simp at hj⟩) rfl
        · cases h
  · cases h

theorem runOpsS_chain (hTb : TabOk P cfg.tab) (hcall : ∀ f args outs r, call f args outs = some r → Does P f args outs r.1 r.2) {ops : Array Oper} : ∀ (l : List Oper) (st : St) (ss : List Step) (st' : St),
    runOpsS cfg fi n call ops l st = some (ss, st') → Chain P n ops l ss (envF st.env) (lookR st.obs) (envF st'.env) (lookR st'.obs) := by
  intro l
  induction l with
  | nil =>
    intro st ss st' h
    simp only [runOpsS, Option.some.injEq, Prod.mk.injEq] at h
    obtain ⟨rfl, rfl⟩ := h
    exact .nil _ _
  | cons o l ih =>
    intro st ss st' h
    simp only [runOpsS] at h
    split at h
    · rename_i s hs
      split at h
      · rename_i ss' st'' hr
        simp only [Option.some.injEq, Prod.mk.injEq] at h
        obtain ⟨rfl, rfl⟩ := h
        obtain ⟨h1, h2, h3, h4⟩ := stepG_good hTb hcall hs
        refine .cons h1 h2 h3 h4 ?_
        have := ih _ _ _ hr
        simp only [St.step, envF_put, envF_rebG, lookR_putAll] at this
        exact this
      · cases h
    · cases h

theorem runOps_S {ops : Array Oper} : ∀ (l : List Oper) (st st' : St), runOps cfg fi n call ops l st = some st' → ∃ ss, runOpsS cfg fi n call ops l st = some (ss, st') := by
  intro l
  induction l with
  | nil => intro st st' h; exact ⟨[], by simpa [runOps, runOpsS] using h⟩
  | cons o l ih =>
    intro st st' h
    simp only [runOps] at h
    split at h
    · rename_i s hs
      obtain ⟨ss, hss⟩ := ih _ _ h
      exact ⟨s :: ss, by simp [runOpsS, hs, hss]⟩
    · cases h

theorem runRegion_sound (hm : P.follows .mixedOrders = true) (hTb : TabOk P cfg.tab) (hcall : ∀ f args outs r, call f args outs = some r → Does P f args outs r.1 r.2) {ops : Array Oper} {drw : Bool} {st st' : St}
    (h : runRegion cfg fi n call ops drw st = some st') {id : Nat} {C : Ctx} {Q : Exit → Act → World → Prop} {M : Mem} {a : Act} (hR : Rel C n (envF st.env) M a) (ho : M.obs = lookR st.obs)
    (hQ : ∀ M' a', Rel C n (envF st'.env) M' a' → M'.obs = lookR st'.obs → Q .normal a' M'.w) : (Code.region id ops drw).wp P Q a M.w := by
  unfold runRegion at h
  cases drw with
  | true =>
    simp only [if_true] at h
    split at h
    · rename_i ss st'' hr
      split at h
      · rename_i hok
        have := Option.some.inj h
        subst this
        exact region_any hm (runOpsS_chain hTb hcall _ _ _ _ hr) hok M a hR ho hQ
      · cases h
    · cases h
  | false =>
    simp only [Bool.false_eq_true, if_false] at h
    obtain ⟨ss, hss⟩ := runOps_S _ _ _ h
    exact region_seq (runOpsS_chain hTb hcall _ _ _ _ hss) M a hR ho hQ

end
end Go.Sim
