/- Functions: what the abstract machine answers, the machine does. -/
import Derived.Test.YtkbeimibpeofbaaGreatSimX
namespace Go.Sim

section
variable {P : Program}

theorem mapM_run {α β : Type} {f : α → Sem β} {w : World} : ∀ (l : List α) (vs : List β), l.length = vs.length → (∀ (j : Nat) x v, l[j]? = some x → vs[j]? = some v → (f x).run P w = .ok v w) → (l.mapM f).run P w = .ok vs w := by
  intro l
  induction l with
  | nil =>
    intro vs hl _
    have : vs = [] := List.eq_nil_of_length_eq_zero hl.symm
    subst this
    rfl
  | cons x l ih =>
    intro vs hl h
    cases vs with
    | nil => simp at hl
    | cons v vs =>
      rw [List.mapM_cons, Sem.run_bind, h 0 x v rfl rfl, Result.andThen_ok, Sem.run_bind, ih vs (by simpa using hl) (fun j y u hy hu => h (j + 1) y u (by simpa using hy) (by simpa using hu)), Result.andThen_ok]
      rfl

def resSem (tmps : Array Value) : ResultVar → Sem Value
  | .tmp t => pure (tmps.getD t undef)
  | .cell a t => do loadVar t (← asAddr (tmps.getD a undef))

theorem results_eq (fn : Func) (tmps : Array Value) : results fn tmps = (do let vs ← fn.results.mapM (resSem tmps); pure (if h : vs.size = 1 then vs[0] else .tuple vs)) := by
  unfold results
  congr 2

def oneOr : List Value → Value
  | [v] => v
  | vs => .tuple vs.toArray

theorem run_results {fn : Func} {tmps : Array Value} {w : World} {vs : List Value} (hl : fn.results.toList.length = vs.length)
    (h : ∀ (j : Nat) x v, fn.results.toList[j]? = some x → vs[j]? = some v → (resSem tmps x).run P w = .ok v w) :
    (results fn tmps).run P w = .ok (oneOr vs) w := by
  rw [results_eq, Sem.run_bind, Array.mapM_eq_mapM_toList, Sem.run_map, mapM_run (P := P) (w := w) fn.results.toList vs hl h]
  have : ∀ vs : List Value, (if h : vs.toArray.size = 1 then vs.toArray[0] else Value.tuple vs.toArray) = oneOr vs := by
    intro vs
    cases vs with
    | nil => rfl
    | cons v vs =>
      cases vs with
      | nil => rfl
      | cons u us => simp [oneOr]
  rw [← this vs]
  rfl

/-- One result. -/
theorem resOne_rep {C : Ctx} {n : Nat} {tb : Tab} (hTb : TabOk P tb) {st : St} {M : Mem} {a : Act} (hR : Rel C n (envF st.env) M a) (ho : M.obs = lookR st.obs) {x : ResultVar} {y : AV} (h : resOne tb st x = some y) :
    ∃ v, (resSem a.tmps x).run P M.w = .ok v M.w ∧ RepV M y v := by
  cases x with
  | tmp t =>
    have := Option.some.inj h
    subst this
    exact ⟨_, rfl, hR.env t⟩
  | cell p t =>
    simp only [resOne] at h
    split at h
    · rename_i ti hT
      split at h
      · rename_i h0
        split at h
        · rename_i r off hp
          split at h
          · rename_i cells hr
            split at h
            · rename_i hl
              have := Option.some.inj h
              subst this
              have hv := hR.env p
              rw [hp] at hv
              obtain ⟨cells', b, _, _, hm, hv⟩ := hv
              have hr' : M.obs r = some (.box cells) := by rw [ho]; exact hr
              obtain ⟨b', cs, T, g1, g2, g3, g4, g5⟩ := hR.mem.obj r _ hr'
              have : b' = b := Option.some.inj (g1.symm.trans hm)
              subst this
              obtain ⟨v, hrun, hrep⟩ := run_loadVar_seg (M := M) (hTb.at hT) b' off cells off hl h0 (fun j y hy _ => by
                have hlt := (List.getElem?_eq_some_iff.1 hy).1
                refine ⟨cs.getD (off + j) undef, ?_, g4 _ y hy⟩
                rw [cell_of_row M.w b' _ cs T (0, 0) g2]
                exact arr_getD (by omega))
              refine ⟨v, ?_, .of hrep⟩
              simp [resSem, hv, asAddr, hrun]
            · cases h
          · cases h
        · cases h
      · cases h
    · cases h

theorem closeS_rep {C : Ctx} {M1 : Mem} (hM1 : MemOk C M1) {obs : Ref → Option Ob} {Z : List Ref} (ho1 : M1.obs = obsZ obs Z) {x : AV} (hx : ∀ r ∈ frzS obs x, r ∈ Z) {v : Value} (hv : RepS M1 x v) : RepS M1 (closeS obs x) v := by
  cases x with
  | own r m =>
    simp only [closeS]
    split
    · rename_i e sz rows wr hr
      split
      · rename_i hl
        have hz : M1.obs r = some (.arr e sz rows false) := by
          rw [ho1]
          unfold obsZ
          by_cases hrz : r ∈ Z
          · simp [hrz, hr, freezeO]
          · simp only [hrz, if_false, hr]
            cases wr with
            | false => rfl
            | true => exact absurd (hx r (by simp [frzS, hr])) hrz
        exact own_sl hM1 hz hl hv
      · exact hv
    · exact hv
  | nils =>
    have : v = .slice none 0 0 := hv
    subst this
    exact RepC.sl0 none 0 (Nat.zero_le _)
  | _ => exact hv

theorem frzS_cells {obs : Ref → Option Ob} {Z : List Ref} {cells : List AV} (h : ∀ r ∈ cells.flatMap (frzS obs), r ∈ Z) {y : AV} (hy : y ∈ cells) : ∀ r ∈ frzS obs y, r ∈ Z :=
  fun r hr => h r (List.mem_flatMap.2 ⟨y, hy, hr⟩)

theorem closeA_rep {C : Ctx} {M1 : Mem} (hM1 : MemOk C M1) {obs : Ref → Option Ob} {Z : List Ref} (ho1 : M1.obs = obsZ obs Z) {x : AV} (hx : ∀ r ∈ (cellsV x).flatMap (frzS obs), r ∈ Z) {v : Value} (hv : RepA M1 x v) : RepA M1 (closeA obs x) v := by
  rcases hv.split with rfl | ⟨cells, rfl⟩ | hs
  · trivial
  · obtain ⟨cs, h1, h2, h3⟩ := hv
    refine ⟨cs, h1, by simpa using h2, fun j y hj => ?_⟩
    simp only [List.getElem?_map, Option.map_eq_some_iff] at hj
    obtain ⟨z, hz, rfl⟩ := hj
    exact closeS_rep hM1 ho1 (frzS_cells hx (List.mem_of_getElem? hz)) (h3 j z hz)
  · have h1 : closeA obs x = closeS obs x := by
      cases x <;> first | rfl | exact False.elim hs
    rw [h1]
    refine .of (closeS_rep hM1 ho1 (fun r hr => ?_) hs)
    cases x with
    | own q m => exact hx r (List.mem_flatMap.2 ⟨.own q m, .head _, hr⟩)
    | _ => cases hr

def oneAV : List AV → AV
  | [w] => w
  | ws => .tup ws

theorem oneAV_rep {M : Mem} {ws : List AV} {vs : List Value} (hl : vs.length = ws.length) (h : ∀ (j : Nat) x v, ws[j]? = some x → vs[j]? = some v → RepA M x v) : RepV M (oneAV ws) (oneOr vs) := by
  have gen : RepV M (.tup ws) (.tuple vs.toArray) := by
    refine ⟨vs.toArray, rfl, by simpa using hl, fun j x hj => ?_⟩
    have hlt : j < vs.length := by rw [hl]; exact (List.getElem?_eq_some_iff.1 hj).1
    have : vs.toArray.getD j undef = vs[j] := by simp [Array.getD_eq_getD_getElem?, hlt]
    rw [this]
    exact h j x _ hj (List.getElem?_eq_getElem hlt)
  cases ws with
  | nil =>
    cases vs with
    | nil => exact gen
    | cons v vs => simp at hl
  | cons x ws =>
    cases ws with
    | nil =>
      cases vs with
      | nil => simp at hl
      | cons v vs =>
        cases vs with
        | nil => exact .of (h 0 x v rfl rfl)
        | cons u us => simp at hl
    | cons y ws =>
      cases vs with
      | nil => simp at hl
      | cons v vs =>
        cases vs with
        | nil => simp at hl
        | cons u us => exact gen

theorem lookR_init : ∀ (outs : List Ob) (k : Nat) (r : Ref), lookR ((outs.zipIdx k).map fun p => (Ref.out p.2, p.1)) r = match r with
    | .out j => if k ≤ j then outs[j - k]? else none
    | .loc _ _ => none := by
  intro outs
  induction outs with
  | nil => intro k r; cases r <;> simp [lookR]
  | cons o outs ih =>
    intro k r
    simp only [List.zipIdx_cons, List.map_cons, lookR, ih]
    cases r with
    | loc a b => simp
    | out j =>
      by_cases hj : j = k
      · subst hj; simp
      · have : ¬ (Ref.out j = Ref.out k) := fun e => hj (by cases e; rfl)
        simp only [this, if_false]
        by_cases h : k ≤ j
        · have h2 : k + 1 ≤ j := by omega
          simp only [h, h2, if_true]
          rw [show j - k = (j - (k + 1)) + 1 from by omega, List.getElem?_cons_succ]
        · have h2 : ¬ k + 1 ≤ j := by omega
          simp [h, h2]

theorem look_init : ∀ (args : List AV) (k t : Nat), look ((args.zipIdx k).map fun p => (p.2, p.1)) t = if k ≤ t then args[t - k]? else none := by
  intro args
  induction args with
  | nil => intro k t; simp [look]
  | cons x args ih =>
    intro k t
    simp only [List.zipIdx_cons, List.map_cons, look, ih]
    by_cases ht : t = k
    · subst ht; simp
    · simp only [ht, if_false]
      by_cases h : k ≤ t
      · have h2 : k + 1 ≤ t := by omega
        simp only [h, h2, if_true]
        rw [show t - k = (t - (k + 1)) + 1 from by omega, List.getElem?_cons_succ]
      · have h2 : ¬ k + 1 ≤ t := by omega
        simp [h, h2]

theorem isTup_rep {M : Mem} {x : AV} {v : Value} (h : isTup x = false) (hv : RepV M x v) : RepA M x v := by
  rcases hv.split with ⟨vs, rfl⟩ | h
  · cases h
  · exact h

/-- What a function leaves. -/
theorem finish_sound {cfg : Cfg} (hTb : TabOk P cfg.tab) {f : FuncId} {fn : Func} {k n : Nat} {st : St} {res : AV} {outs' : List Ob} (h : finish cfg f fn k st = some (res, outs')) {C : Ctx} (hC : ∀ r, C.M0.obs r ≠ none → ∃ j, j < k ∧ r = .out j)
    {M : Mem} {a : Act} (hR : Rel C n (envF st.env) M a) (ho : M.obs = lookR st.obs) :
    ∃ v, (results fn a.tmps).run P M.w = .ok v M.w ∧ ∃ M', M'.w = M.w ∧ M'.obs = obsOf outs' ∧ MemOk C M' ∧ RepV M' res v := by
  unfold finish at h
  split at h
  · cases h
  · rename_i vs hvs
    obtain ⟨hl, hget⟩ := mapM_some hvs
    split at h
    · cases h
    · rename_i hnt
      simp only at h
      generalize hZ : (if cfg.cl f = true then vs.flatMap fun v => (cellsV v).flatMap (frzS (lookR st.obs)) else []) = Z at *
      generalize hW : (if cfg.cl f = true then vs.map (closeA (lookR st.obs)) else vs) = ws at *
      -- the values
      have hval : ∀ (j : Nat), j < vs.length → ∃ v, ∀ x y, fn.results.toList[j]? = some x → vs[j]? = some y → (resSem a.tmps x).run P M.w = .ok v M.w ∧ RepA M y v := by
        intro j hj
        have hx : fn.results.toList[j]? = some (fn.results.toList[j]'(by omega)) := List.getElem?_eq_getElem (by omega)
        obtain ⟨y, hy, hyj⟩ := hget j _ hx
        obtain ⟨v, h1, h2⟩ := resOne_rep hTb hR ho hy
        refine ⟨v, fun x' y' hx' hy' => ?_⟩
        rw [hx] at hx'
        rw [hyj] at hy'
        have e1 := Option.some.inj hx'
        have e2 := Option.some.inj hy'
        subst e1 e2
        refine ⟨h1, isTup_rep ?_ h2⟩
        have hm : y ∈ vs := List.mem_of_getElem? hyj
        cases hb : isTup y with
        | false => rfl
        | true => exact absurd (List.any_eq_true.2 ⟨y, hm, hb⟩) hnt
      let us : List Value := (List.range vs.length).map fun j => if hj : j < vs.length then (hval j hj).choose else undef
      have husl : us.length = vs.length := by simp [us]
      have hus : ∀ (j : Nat) x y u, fn.results.toList[j]? = some x → vs[j]? = some y → us[j]? = some u → (resSem a.tmps x).run P M.w = .ok u M.w ∧ RepA M y u := by
        intro j x y u hx hy hu
        have hj : j < vs.length := (List.getElem?_eq_some_iff.1 hy).1
        have : u = (hval j hj).choose := by
          have : us[j]? = some ((hval j hj).choose) := by simp [us, hj]
          rw [hu] at this
          exact Option.some.inj this
        subst this
        exact (hval j hj).choose_spec x y hx hy
      refine ⟨oneOr us, run_results (by omega) (fun j x u hx hu => ?_), ?_⟩
      · have hj : j < vs.length := by rw [← husl]; exact (List.getElem?_eq_some_iff.1 hu).1
        exact (hus j x vs[j] u hx (List.getElem?_eq_getElem hj) hu).1
      · have hZa : ∀ r ∈ Z, isArr (M.obs r) = true := by
          intro r hr
          rw [← hZ] at hr
          split at hr
          · obtain ⟨v, _, hr⟩ := List.mem_flatMap.1 hr
            obtain ⟨y, _, hr⟩ := List.mem_flatMap.1 hr
            rw [ho]
            exact frzS_arr r hr
          · cases hr
        obtain ⟨M1, hw1, hR1, ho1, hst1⟩ := freeze_all Z hR hZa
        rw [ho] at ho1
        -- the values, closed
        have hwsl : ws.length = vs.length := by rw [← hW]; split <;> simp
        have hws : ∀ (j : Nat) x u, ws[j]? = some x → us[j]? = some u → RepA M1 x u := by
          intro j x u hx hu
          have hj : j < vs.length := by rw [← husl]; exact (List.getElem?_eq_some_iff.1 hu).1
          have hr : fn.results.toList[j]? = some (fn.results.toList[j]'(by omega)) := List.getElem?_eq_getElem (by omega)
          have hy : vs[j]? = some vs[j] := List.getElem?_eq_getElem hj
          have hrep := (hus j _ _ u hr hy hu).2
          -- M1 tells at least as much
          have hst : RepA M1 vs[j] u := hst1.repA hrep
          rw [← hW] at hx
          split at hx
          · rename_i hcl
            simp only [List.getElem?_map, hy, Option.map_some, Option.some.injEq] at hx
            subst hx
            refine closeA_rep hR1.mem ho1 (fun r hr => ?_) hst
            rw [← hZ, if_pos hcl]
            exact List.mem_flatMap.2 ⟨_, List.getElem_mem hj, hr⟩
          · rw [hy] at hx
            have := Option.some.inj hx
            subst this
            exact hst
        have hone := oneAV_rep (M := M1) (by omega) hws
        generalize hlocs : ((reach (obsZ (lookR st.obs) Z) 200 _ []).filter isLoc) = locs at h
        have hlnd : locs.Nodup := by rw [← hlocs]; exact (reach_nodup _ _ _ _ (by simp)).filter _
        have hlloc : ∀ r ∈ locs, isLoc r = true := by intro r hr; rw [← hlocs] at hr; exact (List.mem_filter.1 hr).2
        have hK : NamesOk (renames ((List.range k).map Ref.out) locs (fun i => .out (k + i))) :=
          renames_ok (List.Pairwise.map (R := fun a b => a ≠ b) _ (fun a b hne he => hne (by cases he; rfl)) List.nodup_range) hlnd
            (fun r hr => by obtain ⟨j, _, rfl⟩ := List.mem_map.1 hr; rfl) hlloc (fun i j e => by injection e with e; omega) (fun i hi => by
              obtain ⟨j, hj, e⟩ := List.mem_map.1 hi
              have := List.mem_range.1 hj
              cases e
              omega)
        have hKget : ∀ (j : Nat) p, (renames ((List.range k).map Ref.out) locs (fun i => .out (k + i)))[j]? = some p → p.2 = .out j := by
          intro j p hp
          unfold renames at hp
          by_cases hj : j < k
          · rw [List.getElem?_append_left (by simpa using hj)] at hp
            simp [hj] at hp
            rw [← hp]
          · rw [List.getElem?_append_right (by simpa using hj)] at hp
            simp only [List.length_map, List.length_range, List.getElem?_map, Option.map_eq_some_iff] at hp
            obtain ⟨q, hq, rfl⟩ := hp
            rw [List.getElem?_zipIdx] at hq
            obtain ⟨y, _, rfl⟩ := Option.map_eq_some_iff.1 hq
            simp
            omega
        have hk : ∀ r, C.M0.obs r ≠ none → assocR (renames ((List.range k).map Ref.out) locs (fun i => .out (k + i))) r = some r := by
          intro r hr
          obtain ⟨j, hj, rfl⟩ := hC r hr
          exact renames_out hK (List.mem_map.2 ⟨j, List.mem_range.2 hj, rfl⟩)
        generalize hKe : renames ((List.range k).map Ref.out) locs (fun i => .out (k + i)) = K at *
        split at h
        · cases h
        · rename_i obs' hobs'
          obtain ⟨hol, hoget⟩ := mapM_some hobs'
          simp only [Option.some.injEq, Prod.mk.injEq] at h
          obtain ⟨rfl, rfl⟩ := h
          obtain ⟨hS, hok⟩ := pick_ok hR1.mem hK hk
          refine ⟨pickM M1 K, hw1, ?_, hok, hS.repV (by cases ws with
            | nil => exact hone
            | cons w ws => cases ws <;> exact hone)⟩
          funext q
          simp only [pickM]
          rw [ho1]
          cases hi : invR K q with
          | none =>
            cases q with
            | loc a b => rfl
            | out j =>
              simp only [Option.bind_none, obsOf]
              cases hj : obs'[j]? with
              | none => rfl
              | some o =>
                exfalso
                have hjl : j < K.length := by rw [← hol]; exact (List.getElem?_eq_some_iff.1 hj).1
                have hp := List.getElem?_eq_getElem hjl
                have h2 := hKget j _ hp
                have : assocR K K[j].1 = some (.out j) := assocR_of hK.src (by rw [← h2]; exact List.getElem_mem hjl)
                rw [invR_of hK this] at hi
                cases hi
          | some r =>
            have hm := invR_mem hi
            obtain ⟨j, hj⟩ := List.getElem?_of_mem hm
            have h2 : q = .out j := hKget j _ hj
            subst h2
            obtain ⟨y, hy, hyj⟩ := hoget j _ hj
            simp only [Option.bind_some, obsOf]
            rw [hyj, ← hy]
end
end Go.Sim
