/- The abstract machine's steps are the machine's: calls; all operations. -/
import Derived.Test.YtkbeimibpeofbaaGreatSimU
namespace Go.Sim

theorem binF_binV {tb : Tab} {t : TypeId} {op : BinOp} {x y v : AV} (h : binF tb t op x y = some v) : binV tb t op x y (· = v) := by
  unfold binF at h
  split at h
  case h_20 =>
    split at h
    · rename_i ti h1
      split at h
      · rename_i h2
        exact ⟨⟨ti, h1, h2⟩, Option.some.inj h⟩
      · cases h
    · cases h
  case h_21 =>
    split at h
    · rename_i ti h1
      split at h
      · rename_i h2
        exact ⟨⟨ti, h1, h2⟩, Option.some.inj h⟩
      · cases h
    · cases h
  case h_22 =>
    split at h
    · rename_i ti h1
      split at h
      · rename_i h2
        exact ⟨⟨ti, h1, h2⟩, Option.some.inj h⟩
      · cases h
    · cases h
  case h_23 => cases h
  case h_18 => exact Option.some.inj h
  case h_19 => exact Option.some.inj h
  all_goals
    split at h
    · rename_i hc
      first
        | exact ⟨hc, Option.some.inj h⟩
        | exact ⟨hc, by have := Option.some.inj h; rw [ltI_eq] at this; exact this⟩
        | exact ⟨hc, by have := Option.some.inj h; rw [leI_eq] at this; exact this⟩
        | exact ⟨hc, by have := Option.some.inj h; rw [eqI_eq] at this; exact this⟩
    · cases h

section
variable {P : Program} {n : Nat} {o : Oper} {env : Nat → AV} {obs : Ref → Option Ob} {s : Step}

theorem ls_binOp (hd : ∀ d, o.dst = some d → d < n) {tb : Tab} (hTb : TabOk P tb) {op : BinOp} {t t' : TypeId} {x y : Operand} (ho : o.op = .binOp op t x y t') {vx vy v : AV} (h : binF tb t op vx vy = some v) :
    LStep P n o ⟨[(x, vx), (y, vy)], [], [], v, []⟩ := by
  obtain ⟨u, rfl, hs⟩ := binV_sound hTb t op vx vy (binF_binV h)
  refine .pure hd fun C env' M a hR h1 _ => ?_
  have hx := hR.ev x
  rw [h1 (x, vx) (by simp)] at hx
  have hy := hR.ev y
  rw [h1 (y, vy) (by simp)] at hy
  obtain ⟨cv, hrun, hrep⟩ := hs M x y _ _ hx hy
  refine ⟨cv, ?_, hrep⟩
  have : (execOp a.eval o) = (do eqGuard op t x y (a.eval x) (a.eval y); let v ← binOp op t (a.eval x) (a.eval y); pure (.value v) : Sem Next) := by
    simp [execOp, ho]
  rw [this]
  rw [Sem.run_bind] at hrun ⊢
  cases he : (eqGuard op t x y (a.eval x) (a.eval y)).run P M.w with
  | ok u w =>
    rw [he] at hrun
    simp only [Result.andThen_ok] at hrun ⊢
    rw [Sem.run_bind, hrun]
    rfl
  | _ => rw [he] at hrun; simp [Result.andThen] at hrun

theorem argB1_ok {br sm : Bool} {x : AV} (h : argB1 obs br sm x = true) : argOkS obs br sm x := by
  cases x with
  | own r m =>
    simp only [argB1, Bool.or_eq_true] at h
    simp only [argOkS]
    rcases h with h | h
    · exact .inl h
    · right
      split at h
      · rename_i e sz rows wr hr
        rw [hr]
        simp only [Bool.and_eq_true, beq_iff_eq, Bool.or_eq_true, Bool.not_eq_true'] at h
        exact h
      · cases h
  | _ => trivial

theorem argB_ok {br sm : Bool} {x : AV} (h : argB obs br sm x = true) : argOkA obs br sm x := by
  cases x with
  | agg cells => exact allP_of fun y hy => argB1_ok (List.all_eq_true.1 h y hy)
  | tup vs => cases h
  | own r m => exact argB1_ok (x := .own r m) h
  | _ => trivial

theorem reach_nodup (obs : Ref → Option Ob) : ∀ (k : Nat) (rs acc : List Ref), acc.Nodup → (reach obs k rs acc).Nodup := by
  intro k
  induction k with
  | zero => intro rs acc h; exact h
  | succ k ih =>
    intro rs acc h
    cases rs with
    | nil => exact h
    | cons r rs =>
      simp only [reach]
      split
      · exact ih _ _ h
      · rename_i hr
        split
        · refine ih _ _ ?_
          rw [List.nodup_append]
          exact ⟨h, by simp, fun a ha b hb e => by
            have : b = r := by simpa using hb
            subst this
            subst e
            exact hr ha⟩
        · exact ih _ _ h

theorem mapM_some {α β : Type} {f : α → Option β} : ∀ {l : List α} {ys : List β}, l.mapM f = some ys → ys.length = l.length ∧ ∀ (j : Nat) x, l[j]? = some x → ∃ y, f x = some y ∧ ys[j]? = some y := by
  intro l
  induction l with
  | nil =>
    intro ys h
    have : ys = [] := by simpa using h.symm
    subst this
    exact ⟨rfl, fun j x hj => by simp at hj⟩
  | cons x xs ih =>
    intro ys h
    rw [List.mapM_cons] at h
    cases hx : f x with
    | none => rw [hx] at h; simp at h
    | some y =>
      rw [hx] at h
      cases hxs : xs.mapM f with
      | none => rw [hxs] at h; simp at h
      | some zs =>
        rw [hxs] at h
        have : ys = y :: zs := by simpa using h.symm
        subst this
        obtain ⟨h1, h2⟩ := ih hxs
        refine ⟨by simp [h1], fun j z hj => ?_⟩
        cases j with
        | zero =>
          have : x = z := by simpa using hj
          subst this
          exact ⟨y, hx, rfl⟩
        | succ j => exact h2 j z (by simpa using hj)

theorem refsA_mem {x : AV} : ∀ p ∈ refsA obs x, obs p.1 = some p.2 := by
  intro p hp
  cases x with
  | agg cells =>
    obtain ⟨y, _, hp⟩ := List.mem_flatMap.1 hp
    exact refs1_mem p hp
  | own r m => exact refs1_mem (x := .own r m) p hp
  | _ => cases hp

theorem callG'_good (hd : ∀ d, o.dst = some d → d < n) {cfg : Cfg} {call : FuncId → List AV → List Ob → Option (AV × List Ob)}
    (hcall : ∀ f args outs r, call f args outs = some r → Does P f args outs r.1 r.2) {c : Call} (ho : o.op = .call c) {fo : Operand} (hc : c.callee = .value fo) {f : FuncId} {caps : List Ref} (hf : evAV env fo = .clo f caps) {d : Nat}
    (h : callG' cfg env obs call d fo f caps c.args.toList = some s) : Good P n env obs o s := by
  have hneed : ∀ p ∈ (fo, AV.clo f caps) :: c.args.toList.map (fun x => (x, evAV env x)), evAV env p.1 = p.2 := by
    intro p hp
    rcases List.mem_cons.1 hp with rfl | hp
    · exact hf
    · obtain ⟨q, _, rfl⟩ := List.mem_map.1 hp
      rfl
  unfold callG' at h
  generalize hZ : (if cfg.br f = true then [] else (c.args.toList.map (evAV env)).flatMap fun v => (cellsV v).flatMap (frzS obs)) = Z at *
  generalize hG : reach obs 64 ((c.args.toList.map (evAV env)).flatMap (argRefs (cfg.br f)) ++ caps) [] = G at *
  have hnd : G.Nodup := by rw [← hG]; exact reach_nodup _ _ _ _ (by simp)
  have hZa : ∀ r ∈ Z, isArr (obs r) = true := by
    intro r hr
    rw [← hZ] at hr
    split at hr
    · cases hr
    · obtain ⟨v, _, hr⟩ := List.mem_flatMap.1 hr
      obtain ⟨y, _, hr⟩ := List.mem_flatMap.1 hr
      exact frzS_arr r hr
  simp only at h
  rw [hZ, hG] at h
  split at h
  · cases h
  · rename_i outs houts
    obtain ⟨hlen, hget⟩ := mapM_some houts
    split at h
    · cases h
    · rename_i res outs' hres
      have hdoes := hcall _ _ _ _ hres
      simp only at hdoes
      split at h
      · rename_i hcase
        simp only [Bool.and_eq_true, List.isEmpty_iff, Bool.not_eq_true'] at hcase
        obtain ⟨⟨⟨⟨hGe, rfl⟩, hbr⟩, rfl⟩, hsc⟩ := hcase
        subst hGe
        obtain ⟨hb, rfl⟩ := when_some h
        have hout0 : outs = [] := List.eq_nil_of_length_eq_zero (by simpa using hlen)
        subst hout0
        -- the arguments are the same, frozen or not
        have hargs : (c.args.toList.map (evAV env)).map (argA (obsZ obs Z) [] (cfg.br f)) ++ (capsA []).map (renS (sig [])) = (c.args.toList.map (evAV env)).map (argA obs [] false) := by
          rw [hbr]
          simp only [capsA, List.map_nil, List.append_nil]
          refine List.map_congr_left fun v _ => ?_
          have h1 : ∀ y, argS (obsZ obs Z) [] false y = argS obs [] false y := by
            intro y
            cases y with
            | own r m =>
              simp only [argS, Bool.false_eq_true, if_false, clS, obsZ]
              by_cases hr : r ∈ Z
              · simp only [hr, if_true]
                cases obs r with
                | none => rfl
                | some ob => cases ob <;> rfl
              · simp only [hr, if_false]
            | _ => rfl
          cases v with
          | agg cells => simp only [argA]; congr 1; exact List.map_congr_left fun y _ => h1 y
          | own r m => exact h1 (.own r m)
          | _ => rfl
        rw [hargs] at hdoes
        exact ⟨ls_callS hd ho hc obs rfl (allP_of fun x hx => argB_ok (List.all_eq_true.1 hb x hx)) hdoes hsc _ (fun p hp => hp), hneed, fun p hp => by
          obtain ⟨v, _, hp⟩ := List.mem_flatMap.1 hp
          exact refsA_mem p hp, by simp⟩
      · obtain ⟨hb, rfl⟩ := when_some h
        simp only [Bool.and_eq_true, decide_eq_true_eq] at hb
        obtain ⟨⟨⟨hb1, hb2⟩, hb3⟩, hb4⟩ := hb
        have hGo : ∀ r ∈ G, ∃ ob, obsZ obs Z r = some ob := by
          intro r hr
          obtain ⟨j, hj⟩ := List.getElem?_of_mem hr
          obtain ⟨y, hy, _⟩ := hget j r hj
          cases hm : obsZ obs Z r with
          | none => rw [hm] at hy; cases hy
          | some ob => exact ⟨ob, rfl⟩
        refine Good.freeze Z hZa ⟨ls_callG hd ho hc (obsZ obs Z) G d (outs'.length - G.length) (cfg.br f) rfl (allP_of fun x hx => argB_ok (List.all_eq_true.1 hb2 x hx)) hdoes hnd hlen (fun j r hj => ?_) (by omega) _ _
          (fun p hp => List.mem_append_left _ hp) (fun r ob hr hob => List.mem_append_right _ (List.mem_filterMap.2 ⟨r, hr, by simp [hob]⟩)) (fun k hk => List.mem_map.2 ⟨k, List.mem_range.2 hk, rfl⟩), hneed, ?_, ?_⟩
        · obtain ⟨y, hy, hyj⟩ := hget j r hj
          obtain ⟨ob, hob⟩ := hGo r (List.mem_of_getElem? hj)
          rw [hob] at hy
          exact ⟨ob, hob, by rw [hyj, ← hy]; rfl⟩
        · intro p hp
          rcases List.mem_append.1 hp with hp | hp
          · obtain ⟨v, _, hp⟩ := List.mem_flatMap.1 hp
            exact refsA_mem p hp
          · obtain ⟨r, _, hm⟩ := List.mem_filterMap.1 hp
            cases hm' : obsZ obs Z r with
            | none => rw [hm'] at hm; cases hm
            | some ob =>
              rw [hm'] at hm
              simp only [Option.map_some, Option.some.injEq] at hm
              subst hm
              exact hm'
        · intro r hr
          obtain ⟨k, hk, rfl⟩ := List.mem_map.1 hr
          have := List.all_eq_true.1 hb3 k hk
          have hn : obs (.loc d k) = none := by cases hm : obs (.loc d k) <;> simp [hm] at this ⊢
          unfold obsZ
          split <;> simp [hn]

theorem arr2 {α : Type} {xs : Array α} {x y : α} (h : xs.toList = [x, y]) : xs = #[x, y] := by
  apply Array.ext'; simpa using h
theorem arr1 {α : Type} {xs : Array α} {x : α} (h : xs.toList = [x]) : xs = #[x] := by
  apply Array.ext'; simpa using h

theorem appendS_good (hd : ∀ d, o.dst = some d → d < n) {tb : Tab} (hTb : TabOk P tb) {t e : TypeId} {eti : TI} (hE : elemT tb t = some (e, eti)) {c : Call} (ho : o.op = .call c) (hc : c.callee = .builtin .append) {x y : Operand}
    (ha : c.args = #[x, y]) (hat : c.argTypes = #[t, t]) {k : Ref} {wr : Bool} (h : appendS env obs e eti k wr x y = some s) : Good P n env obs o s := by
  obtain ⟨ti, h1, h2, h3, h4⟩ := elemT_some hE
  unfold appendS at h
  simp only at h
  split at h
  · rename_i hx
    obtain ⟨hb, rfl⟩ := when_some h
    simp only [Bool.and_eq_true, decide_eq_true_eq] at hb
    obtain ⟨⟨⟨⟨hb1, hb2⟩, hb3⟩, hb4⟩, hb5⟩ := hb
    have hobk : obs k = none := by cases hm : obs k <;> simp [hm] at hb1 ⊢
    have := ls_append (r := k) (rows := []) (wr := wr) (vx := .nils) hd ho hc ha hat (hTb.at h1) h2 (hTb.at h3) h4 obs (rowsB_ok hb2) (rowLens_mem hb3) (refs1 obs (evAV env y)) [k] (fun p hp => hp) (.inl ⟨rfl, rfl, by simp⟩) (by simpa using hb4) (by simpa using hb5)
    exact ⟨by simpa using this, by simp [hx], fun p hp => refs1_mem p hp, by simp [hobk]⟩
  · rename_i r m hx
    split at h
    · rename_i e' sz rows wr' hr
      obtain ⟨hb, rfl⟩ := when_some h
      simp only [Bool.and_eq_true, decide_eq_true_eq, beq_iff_eq] at hb
      obtain ⟨⟨⟨⟨⟨⟨rfl, rfl⟩, rfl⟩, hb4⟩, hb5⟩, hb6⟩, hb7⟩ := hb
      refine ⟨ls_append hd ho hc ha hat (hTb.at h1) h2 (hTb.at h3) h4 obs (rowsB_ok hb4) (rowLens_mem hb5) _ _ (fun p hp => .tail _ hp) (.inr ⟨rfl, .head _⟩) hb6 hb7, by simp [hx], ?_, by simp⟩
      intro p hp
      rcases List.mem_cons.1 hp with rfl | hp
      · exact hr
      · exact refs1_mem p hp
    · cases h
  · cases h

theorem builtinS_good (hd : ∀ d, o.dst = some d → d < n) {cfg : Cfg} (hTb : TabOk P cfg.tab) {fi : FuncId} {c : Call} (ho : o.op = .call c) {b : Builtin} (hc : c.callee = .builtin b) {d : Nat}
    (h : builtinS cfg fi env obs b d c.args.toList c.argTypes.toList = some s) : Good P n env obs o s := by
  unfold builtinS at h
  split at h
  · rename_i x t ha hat
    have ha := arr1 ha
    have hat := arr1 hat
    split at h
    · rename_i str hx
      obtain ⟨hb, rfl⟩ := when_some h
      obtain ⟨ti, h1, h2⟩ := isStrT_some hb
      exact ⟨ls_len_str hd ho hc ha hat (hTb.at h1) h2, by simp [hx], by simp, by simp⟩
    · split at h
      · rename_i p hE
        obtain ⟨e, eti⟩ := p
        obtain ⟨ti, h1, h2, h3, h4⟩ := elemT_some hE
        obtain ⟨hb, rfl⟩ := when_some h
        exact ⟨ls_len_sl hd ho hc ha hat (hTb.at h1) h2 obs (rowsB_ok hb) _ (fun p hp => hp), by simp, fun p hp => refs1_mem p hp, by simp⟩
      · cases h
  · rename_i x y ts ha
    have ha := arr2 ha
    split at h
    · rename_i k p j q hx hy
      have := Option.some.inj h
      subst this
      exact ⟨ls_max (mx := true) hd ho hc ha, by simp [hx, hy], by simp, by simp⟩
    · cases h
  · rename_i x y ts ha
    have ha := arr2 ha
    split at h
    · rename_i k p j q hx hy
      have := Option.some.inj h
      subst this
      exact ⟨ls_max (mx := false) hd ho hc ha, by simp [hx, hy], by simp, by simp⟩
    · cases h
  · rename_i x y t t' ha hat
    have ha := arr2 ha
    have hat := arr2 hat
    split at h
    · rename_i e eti hE
      split at h
      · rename_i htt
        subst htt
        exact appendS_good hd hTb hE ho hc ha hat h
      · cases h
    · cases h
  · cases h

theorem capRefs_some : ∀ {xs : List Operand} {rs : List Ref}, capRefs env xs = some rs → rs.length = xs.length ∧ ∀ (j : Nat) x r, xs[j]? = some x → rs[j]? = some r → evAV env x = .ptr r 0 := by
  intro xs
  induction xs with
  | nil =>
    intro rs h
    have : rs = [] := (Option.some.inj h).symm
    subst this
    exact ⟨rfl, fun j x r hj => by simp at hj⟩
  | cons x xs ih =>
    intro rs h
    simp only [capRefs] at h
    split at h
    · rename_i r hx
      obtain ⟨qs, hq, rfl⟩ := Option.map_eq_some_iff.1 h
      obtain ⟨h1, h2⟩ := ih hq
      refine ⟨by simp [h1], fun j y q hy hr => ?_⟩
      cases j with
      | zero =>
        have e1 : x = y := by simpa using hy
        have e2 : r = q := by simpa using hr
        subst e1 e2
        exact hx
      | succ j => exact h2 j y q (by simpa using hy) (by simpa using hr)
    · cases h

theorem fillB_ok {place : Nat → Option (Nat × Nat)} {len : Nat} : ∀ {ps : List (Nat × List AV)}, fillB place len ps = true → fillOk place len ps := by
  intro ps
  induction ps with
  | nil => intro _; trivial
  | cons p ps ih =>
    intro h
    simp only [fillB, Bool.and_eq_true] at h
    refine ⟨?_, ih h.2⟩
    have h1 := h.1
    split at h1
    · rename_i off size hp
      rw [hp]
      simpa using h1
    · cases h1

theorem placeOf_some {tb : Tab} {k : TK} {place : Nat → Option (Nat × Nat)} (h : placeOf tb k = some place) :
    (∃ fs, k = .struct fs ∧ ∃ sizes : List Nat, fs.mapM (fun p => (look tb p.2).map (·.size)) = some sizes ∧ place = fun i => ((fs.map (·.1)).zip sizes)[i]?) ∨
      (∃ m e eti, k = .array m e ∧ look tb e = some eti ∧ place = fun i => some (i * eti.size, eti.size)) := by
  unfold placeOf at h
  split at h
  · rename_i fs
    split at h
    · rename_i sizes hs
      exact .inl ⟨fs, rfl, sizes, hs, (Option.some.inj h).symm⟩
    · cases h
  · rename_i m e
    split at h
    · rename_i eti he
      exact .inr ⟨m, e, eti, rfl, he, (Option.some.inj h).symm⟩
    · cases h
  · cases h

end
end Go.Sim
