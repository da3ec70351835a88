/- What the abstract machine answers, without a count; its equations. -/
import Derived.Test.YtkbeimibpeofbaaGreatSimY
namespace Go.Sim

def LibOk (P : Program) (cfg : Cfg) : Prop := ∀ f g args outs r, cfg.lib f = some g → g args outs = some r → Does P f args outs r.1 r.2

structure CfgOk (P : Program) (cfg : Cfg) : Prop where
  mixed : P.follows .mixedOrders = true
  tab : TabOk P cfg.tab
  lib : LibOk P cfg

theorem run_callFunc {P : Program} {f : FuncId} {fn : Func} {c : Code} (hf : P.funcs[f]? = some fn) (hb : fn.body = some c) (hn : (fn.name == "runtime.NumGoroutine") = false) (vs : Array Value) (w : World) :
    (callFunc f vs).run P w = .ok (.enter f vs) w := by
  have hn' : ¬ fn.name = "runtime.NumGoroutine" := by simpa using hn
  simp [callFunc, hf, hb, hn']

section
variable {P : Program} {cfg : Cfg}

theorem runF_sound (h0 : CfgOk P cfg) {call : FuncId → List AV → List Ob → Option (AV × List Ob)} (hcall : ∀ f args outs r, call f args outs = some r → Does P f args outs r.1 r.2)
    {lp : (St → Option (Ex × St)) → (St → St) → St → Option (Ex × St)} (hlp : LpOk lp) {f : FuncId} {args : List AV} {outs : List Ob} {r : AV × List Ob} (h : runF P cfg lp call f args outs = some r) : Does P f args outs r.1 r.2 := by
  obtain ⟨res, outs'⟩ := r
  unfold runF at h
  split at h
  · rename_i g hg
    exact h0.lib f g args outs _ hg h
  · split at h
    · cases h
    · rename_i fn hf
      split at h
      · cases h
      · rename_i c hb
        split at h
        · rename_i hc
          obtain ⟨hlen, hname⟩ := hc
          have key : ∃ e st, runC cfg f fn.ntmps call lp c (initSt args outs) = some (e, st) ∧ (e = .nx ∨ e = .rt) ∧ finish cfg f fn outs.length st = some (res, outs') := by
            split at h
            · rename_i st hr; exact ⟨_, st, hr, .inl rfl, h⟩
            · rename_i st hr; exact ⟨_, st, hr, .inr rfl, h⟩
            · cases h
          obtain ⟨e, st, hr, he, hfin⟩ := key
          refine ⟨fun vs w => run_callFunc hf hb hname vs w, fun M vs ho hok hvl hvs => ?_⟩
          refine calls_of_wp hf hb ?_
          refine runC_sound h0.mixed h0.tab hcall hlp c _ _ _ hr (cctx M outs.length) M _ _ (fun q hq => ?_) ⟨?_, rfl, fun t => ?_, hok⟩ ?_ (fun M' a' hR' ho' => ?_)
          · have hq : M.obs q ≠ none := hq
            rw [ho] at hq
            cases q with
            | out j => rfl
            | loc a b => exact absurd rfl hq
          · simp [hvl]
            omega
          · show RepV M ((look ((args.zipIdx 0).map fun p => (p.2, p.1)) t).getD .junk) _
            rw [look_init]
            simp only [Nat.zero_le, if_true, Nat.sub_zero]
            cases hx : args[t]? with
            | none => trivial
            | some x =>
              have hlt : t < vs.length := by rw [hvl]; exact (List.getElem?_eq_some_iff.1 hx).1
              have hv := hvs t x vs[t] hx (List.getElem?_eq_getElem hlt)
              have : (vs.toArray ++ Array.replicate (fn.ntmps - vs.toArray.size) undef).getD t undef = vs[t] := by
                simp [Array.getD_eq_getD_getElem?, Array.getElem?_append, hlt]
              rw [this]
              exact .of hv
          · rw [ho]
            funext q
            show obsOf outs q = lookR ((outs.zipIdx 0).map fun p => (Ref.out p.2, p.1)) q
            rw [lookR_init]
            cases q <;> simp [obsOf]
          · obtain ⟨v, hrun, M2, hw, ho2, hok2, hrep⟩ := finish_sound (n := fn.ntmps) h0.tab hfin (C := cctx M outs.length) (fun q hq => by
              have hq : M.obs q ≠ none := hq
              rw [ho] at hq
              cases q with
              | out j =>
                refine ⟨j, ?_, rfl⟩
                have : outs[j]? ≠ none := hq
                exact Nat.lt_of_not_le fun hge => this (List.getElem?_eq_none hge)
              | loc a b => exact absurd rfl hq) hR' ho'
            have : a'.defers = [] ∧ ∃ v, (results fn a'.tmps).run P M'.w = .ok v M'.w ∧ ∃ v' M2, Ending.returned v = .returned v' ∧ M2.w = M'.w ∧ M2.obs = obsOf outs' ∧ MemOk (cctx M outs.length) M2 ∧ RepV M2 res v' :=
              ⟨hR'.defers, v, hrun, v, M2, rfl, hw, ho2, hok2, hrep⟩
            rcases he with rfl | rfl <;> exact this
        · cases h

/-! ### Loops, without a count -/
theorem loopF_more {step : St → Option (Ex × St)} {norm : St → St} : ∀ (k : Nat) (st : St) r, loopF step norm k st = some r → ∀ m, k ≤ m → loopF step norm m st = some r := by
  intro k
  induction k with
  | zero => intro st r h; cases h
  | succ k ih =>
    intro st r h m hm
    obtain ⟨m', rfl⟩ : ∃ m', m = m' + 1 := ⟨m - 1, by omega⟩
    simp only [loopF] at h ⊢
    cases hs : step (norm st) with
    | none => rw [hs] at h; cases h
    | some p =>
      obtain ⟨e, st'⟩ := p
      rw [hs] at h
      cases e with
      | nx => exact ih st' r h m' (by omega)
      | ex id => exact h
      | rt => exact h

theorem LOOP_of {step : St → Option (Ex × St)} {norm : St → St} {k : Nat} {st : St} {r : Ex × St} (h : loopF step norm k st = some r) : LOOP step norm st = some r := by
  have hex : ∃ r k, loopF step norm k st = some r := ⟨r, k, h⟩
  unfold LOOP
  rw [dif_pos hex]
  obtain ⟨k', hk'⟩ := hex.choose_spec
  have h1 := loopF_more _ _ _ h (max k k') (Nat.le_max_left _ _)
  have h2 := loopF_more _ _ _ hk' (max k k') (Nat.le_max_right _ _)
  rw [h1] at h2
  exact h2.symm

theorem LOOP_some {step : St → Option (Ex × St)} {norm : St → St} {st : St} {r : Ex × St} (h : LOOP step norm st = some r) : ∃ k, loopF step norm k st = some r := by
  unfold LOOP at h
  split at h
  · rename_i hex
    have := Option.some.inj h
    rw [← this]
    exact hex.choose_spec
  · cases h

theorem LOOP_ok : LpOk LOOP := fun _ _ _ _ h => LOOP_some h

theorem LOOP_eq (step : St → Option (Ex × St)) (norm : St → St) (st : St) : LOOP step norm st = match step (norm st) with
    | some (.nx, st') => LOOP step norm st'
    | r => r := by
  have key : ∀ r, LOOP step norm st = some r ↔ (match step (norm st) with
    | some (.nx, st') => LOOP step norm st'
    | r => r) = some r := by
    intro r
    constructor
    · intro h
      obtain ⟨k, hk⟩ := LOOP_some h
      cases k with
      | zero => cases hk
      | succ k =>
        simp only [loopF] at hk
        cases hs : step (norm st) with
        | none => rw [hs] at hk; cases hk
        | some p =>
          obtain ⟨e, st'⟩ := p
          rw [hs] at hk
          cases e with
          | nx => exact LOOP_of hk
          | ex id => exact hk
          | rt => exact hk
    · intro h
      cases hs : step (norm st) with
      | none => rw [hs] at h; cases h
      | some p =>
        obtain ⟨e, st'⟩ := p
        rw [hs] at h
        cases e with
        | nx =>
          obtain ⟨k, hk⟩ := LOOP_some h
          exact LOOP_of (k := k + 1) (by simp only [loopF, hs]; exact hk)
        | ex id => exact LOOP_of (k := 1) (by simp only [loopF, hs]; exact h)
        | rt => exact LOOP_of (k := 1) (by simp only [loopF, hs]; exact h)
  cases hl : LOOP step norm st with
  | some r => exact ((key r).1 hl).symm
  | none =>
    cases hm : (match step (norm st) with
      | some (.nx, st') => LOOP step norm st'
      | r => r) with
    | none => rfl
    | some r => rw [(key r).2 hm] at hl; cases hl

/-! ### Calls, without a count -/
theorem evF_sound (h0 : CfgOk P cfg) : ∀ (k : Nat) f args outs r, evF P cfg k f args outs = some r → Does P f args outs r.1 r.2 := by
  intro k
  induction k with
  | zero => intro f args outs r h; cases h
  | succ k ih => intro f args outs r h; exact runF_sound h0 ih LOOP_ok h

theorem EV_some {f : FuncId} {args : List AV} {outs : List Ob} {r : AV × List Ob} (h : EV P cfg f args outs = some r) : ∃ N, ∀ k, N ≤ k → evF P cfg k f args outs = some r := by
  unfold EV at h
  split at h
  · rename_i hex
    have := Option.some.inj h
    rw [← this]
    exact hex.choose_spec
  · cases h

theorem EV_intro {f : FuncId} {args : List AV} {outs : List Ob} {r : AV × List Ob} {N : Nat} (h : ∀ k, N ≤ k → evF P cfg k f args outs = some r) : EV P cfg f args outs = some r := by
  have hex : ∃ r N, ∀ k, N ≤ k → evF P cfg k f args outs = some r := ⟨r, N, h⟩
  unfold EV
  rw [dif_pos hex]
  obtain ⟨N', hN'⟩ := hex.choose_spec
  have h1 := h (max N N') (Nat.le_max_left _ _)
  have h2 := hN' (max N N') (Nat.le_max_right _ _)
  rw [h1] at h2
  exact h2.symm

/-- The abstract machine's answer is the machine's. -/
theorem EV_sound (h0 : CfgOk P cfg) {f : FuncId} {args : List AV} {outs : List Ob} {res : AV} {outs' : List Ob} (h : EV P cfg f args outs = some (res, outs')) : Does P f args outs res outs' := by
  obtain ⟨N, hN⟩ := EV_some h
  exact evF_sound h0 N f args outs _ (hN N (Nat.le_refl _))

abbrev Oracle := FuncId → List AV → List Ob → Option (AV × List Ob)

/-- Oracles that come near another. -/
def Near (cs : Nat → Oracle) (c : Oracle) : Prop := ∀ f args outs r, c f args outs = some r → ∃ N, ∀ k, N ≤ k → cs k f args outs = some r

section
variable {fi n : Nat} {cs : Nat → Oracle} {c : Oracle}

theorem callG'_near (hN : Near cs c) {env : Nat → AV} {obs : Ref → Option Ob} {d : Nat} {fo : Operand} {f : FuncId} {caps : List Ref} {xs : List Operand} {s : Step} (h : callG' cfg env obs c d fo f caps xs = some s) :
    ∃ N, ∀ k, N ≤ k → callG' cfg env obs (cs k) d fo f caps xs = some s := by
  unfold callG' at h
  simp only at h
  split at h
  · cases h
  · rename_i outs houts
    split at h
    · cases h
    · rename_i res outs' hres
      obtain ⟨N, hk⟩ := hN _ _ _ _ hres
      refine ⟨N, fun k hle => ?_⟩
      unfold callG'
      simp only
      rw [houts]
      simp only [hk k hle]
      exact h

theorem stepOp_near (hN : Near cs c) {env : Nat → AV} {obs : Ref → Option Ob} {o : Oper} {s : Step} (h : stepOp cfg fi env obs c o = some s) : ∃ N, ∀ k, N ≤ k → stepOp cfg fi env obs (cs k) o = some s := by
  by_cases hc : ∃ cl fo f caps, o.op = .call cl ∧ cl.callee = .value fo ∧ evAV env fo = .clo f caps
  · obtain ⟨cl, fo, f, caps, ho, hv, he⟩ := hc
    have key : ∀ c' : Oracle, stepOp cfg fi env obs c' o = callG' cfg env obs c' (o.dst.getD 99999) fo f caps cl.args.toList := by
      intro c'
      simp only [stepOp, ho, hv, he]
    rw [key] at h
    obtain ⟨N, hk⟩ := callG'_near hN h
    exact ⟨N, fun k hle => by rw [key]; exact hk k hle⟩
  · have key : ∀ c' : Oracle, stepOp cfg fi env obs c' o = stepOp cfg fi env obs c o := by
      intro c'
      unfold stepOp
      simp only
      split <;> first | rfl | skip
      rename_i cl ho
      split <;> first | rfl | skip
      rename_i fo hv
      split <;> first | rfl | skip
      rename_i f caps he
      exact absurd ⟨cl, fo, f, caps, ho, hv, he⟩ hc
    exact ⟨0, fun k _ => by rw [key]; exact h⟩

theorem stepG_near (hN : Near cs c) {ops : Array Oper} {o : Oper} {st : St} {s : Step} (h : stepG cfg fi n c ops o st = some s) : ∃ N, ∀ k, N ≤ k → stepG cfg fi n (cs k) ops o st = some s := by
  unfold stepG at h ⊢
  split at h
  · rename_i hd
    simp only [hd, if_true]
    split at h
    · rename_i hg
      exact stepOp_near hN h
    · rename_i j b hg
      split at h
      · cases h
      · rename_i d y b' hy
        split at h
        · rename_i hn
          simp only [hn, if_true]
          split at h
          · rename_i hb
            simp only [hb, if_true]
            obtain ⟨s', hs', rfl⟩ := Option.map_eq_some_iff.1 h
            obtain ⟨N, hk⟩ := stepOp_near hN hs'
            exact ⟨N, fun k hle => by rw [hk k hle]; rfl⟩
          · rename_i hb
            simp only [hb, if_false]
            exact ⟨0, fun _ _ => h⟩
        · cases h
  · cases h

theorem runOpsS_near (hN : Near cs c) {ops : Array Oper} : ∀ (l : List Oper) (st : St) r, runOpsS cfg fi n c ops l st = some r → ∃ N, ∀ k, N ≤ k → runOpsS cfg fi n (cs k) ops l st = some r := by
  intro l
  induction l with
  | nil => intro st r h; exact ⟨0, fun _ _ => h⟩
  | cons o l ih =>
    intro st r h
    simp only [runOpsS] at h ⊢
    split at h
    · rename_i s hs
      split at h
      · rename_i ss st' hr
        obtain ⟨N1, h1⟩ := stepG_near hN hs
        obtain ⟨N2, h2⟩ := ih _ _ hr
        exact ⟨max N1 N2, fun k hle => by simp only [h1 k (by omega), h2 k (by omega)]; exact h⟩
      · cases h
    · cases h

theorem runOps_near (hN : Near cs c) {ops : Array Oper} : ∀ (l : List Oper) (st : St) r, runOps cfg fi n c ops l st = some r → ∃ N, ∀ k, N ≤ k → runOps cfg fi n (cs k) ops l st = some r := by
  intro l
  induction l with
  | nil => intro st r h; exact ⟨0, fun _ _ => h⟩
  | cons o l ih =>
    intro st r h
    simp only [runOps] at h ⊢
    split at h
    · rename_i s hs
      obtain ⟨N1, h1⟩ := stepG_near hN hs
      obtain ⟨N2, h2⟩ := ih _ _ h
      exact ⟨max N1 N2, fun k hle => by simp only [h1 k (by omega)]; exact h2 k (by omega)⟩
    · cases h

theorem runC_near (hN : Near cs c) : ∀ (x : Code) (st : St) r, runC cfg fi n c LOOP x st = some r → ∃ N, ∀ k, N ≤ k → runC cfg fi n (cs k) LOOP x st = some r := by
  intro x
  induction x with
  | region id ops drw =>
    intro st r h
    simp only [runC] at h ⊢
    split at h
    · rename_i st1 hr
      have : ∃ N, ∀ k, N ≤ k → runRegion cfg fi n (cs k) ops drw st = some st1 := by
        unfold runRegion at hr ⊢
        split at hr
        · rename_i hd
          simp only [hd, if_true]
          split at hr
          · rename_i ss st2 hr2
            obtain ⟨N, hk⟩ := runOpsS_near hN _ _ _ hr2
            exact ⟨N, fun k hle => by simp only [hk k hle]; exact hr⟩
          · cases hr
        · rename_i hd
          simp only [hd]
          exact runOps_near hN _ _ _ hr
      obtain ⟨N, hk⟩ := this
      exact ⟨N, fun k hle => by simp only [hk k hle]; exact h⟩
    · cases h
  | seq a b iha ihb =>
    intro st r h
    simp only [runC] at h ⊢
    cases hr : runC cfg fi n c LOOP a st with
    | none => rw [hr] at h; cases h
    | some p =>
      obtain ⟨e, st1⟩ := p
      rw [hr] at h
      obtain ⟨N1, h1⟩ := iha _ _ hr
      cases e with
      | nx =>
        obtain ⟨N2, h2⟩ := ihb _ _ h
        exact ⟨max N1 N2, fun k hle => by simp only [h1 k (by omega)]; exact h2 k (by omega)⟩
      | ex id => exact ⟨N1, fun k hle => by simp only [h1 k hle]; exact h⟩
      | rt => exact ⟨N1, fun k hle => by simp only [h1 k hle]; exact h⟩
  | cond cc a b iha ihb =>
    intro st r h
    simp only [runC] at h
    split at h
    · rename_i t ht
      cases t with
      | true =>
        obtain ⟨N, hk⟩ := iha _ _ h
        exact ⟨N, fun k hle => by simp only [runC, ht]; exact hk k hle⟩
      | false =>
        obtain ⟨N, hk⟩ := ihb _ _ h
        exact ⟨N, fun k hle => by simp only [runC, ht]; exact hk k hle⟩
    · cases h
  | block id a iha =>
    intro st r h
    simp only [runC] at h ⊢
    cases hr : runC cfg fi n c LOOP a st with
    | none => rw [hr] at h; cases h
    | some p =>
      obtain ⟨e, st1⟩ := p
      rw [hr] at h
      obtain ⟨N1, h1⟩ := iha _ _ hr
      exact ⟨N1, fun k hle => by simp only [h1 k hle]; exact h⟩
  | loop a iha =>
    intro st r h
    simp only [runC] at h ⊢
    obtain ⟨m, hm⟩ := LOOP_some h
    clear h
    induction m generalizing st with
    | zero => cases hm
    | succ m ihm =>
      simp only [loopF] at hm
      cases hs : runC cfg fi n c LOOP a (St.norm (cfg.lv fi (loopId a)) st) with
      | none => rw [hs] at hm; cases hm
      | some p =>
        obtain ⟨e, st1⟩ := p
        rw [hs] at hm
        obtain ⟨N1, h1⟩ := iha _ _ hs
        cases e with
        | nx =>
          obtain ⟨N2, h2⟩ := ihm _ hm
          exact ⟨max N1 N2, fun k hle => by rw [LOOP_eq, h1 k (by omega)]; exact h2 k (by omega)⟩
        | ex id => exact ⟨N1, fun k hle => by rw [LOOP_eq, h1 k hle]; exact hm⟩
        | rt => exact ⟨N1, fun k hle => by rw [LOOP_eq, h1 k hle]; exact hm⟩
  | skip => intro st r h; exact ⟨0, fun _ _ => h⟩
  | exit id => intro st r h; exact ⟨0, fun _ _ => h⟩
  | ret => intro st r h; exact ⟨0, fun _ _ => h⟩
  | _ => intro st r h; simp [runC] at h

end

theorem EV_near : Near (evF P cfg) (EV P cfg) := fun _ _ _ _ h => EV_some h

/-- A function is unfolded. -/
theorem EV_of {f : FuncId} {fn : Func} {c : Code} {args : List AV} {outs : List Ob} {r : AV × List Ob} (hl : cfg.lib f = none) (hf : P.funcs[f]? = some fn) (hb : fn.body = some c) (hn : args.length ≤ fn.ntmps)
    (hname : (fn.name == "runtime.NumGoroutine") = false)
    (h : ∃ e st, runC cfg f fn.ntmps (EV P cfg) LOOP c (initSt args outs) = some (e, st) ∧ (e = .nx ∨ e = .rt) ∧ finish cfg f fn outs.length st = some r) : EV P cfg f args outs = some r := by
  obtain ⟨e, st, hr, he, hfin⟩ := h
  obtain ⟨N, hN⟩ := runC_near (EV_near (P := P) (cfg := cfg)) _ _ _ hr
  refine EV_intro (N := N + 1) fun k hk => ?_
  obtain ⟨k', rfl⟩ : ∃ k', k = k' + 1 := ⟨k - 1, by omega⟩
  simp only [evF, runF, hl, hf, hb, hn, hname, and_self, if_true, hN k' (by omega)]
  rcases he with rfl | rfl <;> exact hfin

theorem EV_lib {f : FuncId} {g : LibF} {args : List AV} {outs : List Ob} {r : AV × List Ob} (hl : cfg.lib f = some g) (h : g args outs = some r) : EV P cfg f args outs = some r := by
  refine EV_intro (N := 1) fun k hk => ?_
  obtain ⟨k', rfl⟩ : ∃ k', k = k' + 1 := ⟨k - 1, by omega⟩
  simp only [evF, runF, hl, h]
end
end Go.Sim
