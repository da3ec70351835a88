/- Loops, with what comes behind; the operations at which the running stands still. -/
import Derived.Test.YtkbeimibpeofbaaGreatSimZB
namespace Go.Sim

theorem TI_of {P : Program} {t : TypeId} {info : TypeInfo} {z : Value} {d : TypeDesc} {ti : TI} (h1 : P.types[t]? = some info) (h2 : info.zero = some z) (h3 : info.size = ti.size) (h4 : info.bytes = ti.bytes)
    (h5 : P.underlying t = some d) (h6 : ti.k.fits d) (h7 : z.cells.size = ti.size) (h8 : z.cells.toList = ti.zero.map toV) (h9 : ti.zero.all plainZ = true) (h10 : ti.eqs = true → EqTy P t ti.zero) : TIok P t ti := by
  have hlt : t < P.types.size := (Array.getElem?_eq_some_iff.1 h1).1
  refine ⟨info, z, d, ?_, h2, h3, h4, h5, h6, h7, h8, h9, h10⟩
  show (if t < P.types.size then P.types[t]? else _) = _
  rw [if_pos hlt, h1]

/-- A loop from a state that is at its head. -/
noncomputable def LOOPN (step : St → Option (Ex × St)) (norm : St → St) (st : St) : Option (Ex × St) :=
  match step st with
  | some (.nx, st') => LOOP step norm st'
  | r => r

theorem LOOP_N (step : St → Option (Ex × St)) (norm : St → St) (st : St) : LOOP step norm st = LOOPN step norm (norm st) := LOOP_eq step norm st

section
variable {ρ : Type}

theorem head_of {step : St → Option (Ex × St)} {norm : St → St} {st s : St} {k : Ex → St → Option ρ} {r : Option ρ} (hs : norm st = s) (h : loopK (LOOPN step norm s) k = r) : loopK (LOOP step norm st) k = r := by
  rw [LOOP_N, hs]; exact h

/-- By a measure that falls. -/
theorem loop_ind {β : Type} {step : St → Option (Ex × St)} {norm : St → St} {k : Ex → St → Option ρ} (inv : β → St) (I : β → Prop) (μ : β → Nat) (post : β → Option ρ)
    (round : ∀ b, I b → (∀ b', I b' → μ b' < μ b → loopK (LOOPN step norm (inv b')) k = post b') → loopK (LOOPN step norm (inv b)) k = post b) : ∀ b, I b → loopK (LOOPN step norm (inv b)) k = post b := by
  have key : ∀ (m : Nat) b, μ b = m → I b → loopK (LOOPN step norm (inv b)) k = post b := by
    intro m
    induction m using Nat.strongRecOn with
    | _ m ih =>
      intro b hm hI
      exact round b hI fun b' hI' hlt => ih (μ b') (hm ▸ hlt) b' rfl hI'
  exact fun b hI => key (μ b) b rfl hI

variable {cfg : Cfg} {fi n : Nat} {call : FuncId → List AV → List Ob → Option (AV × List Ob)} {lp : (St → Option (Ex × St)) → (St → St) → St → Option (Ex × St)}

theorem round_of {c : Code} {norm : St → St} {env : List (Nat × AV)} {obs : List (Ref × Ob)} {k : Ex → St → Option ρ} {r : ρ}
    (h : codeK cfg fi n call lp c env obs (fun e env obs => match e with
      | .nx => loopK (LOOP (runC cfg fi n call lp c) norm ⟨env, obs⟩) k
      | e => k e ⟨env, obs⟩) = some r) : loopK (LOOPN (runC cfg fi n call lp c) norm ⟨env, obs⟩) k = some r := by
  obtain ⟨e, st, h1, h2⟩ := codeK_some _ _ _ _ _ h
  unfold LOOPN
  rw [h1]
  cases e with
  | nx => exact h2
  | ex id => exact h2
  | rt => exact h2

theorem vuK_of {o : VU} {v : AV} {U : List (Ref × Ob)} {k : AV → List (Ref × Ob) → Option ρ} {r : Option ρ} (h : o = some (v, U)) (h2 : k v U = r) : vuK o k = r := by rw [h]; exact h2

theorem okK_of {b : Bool} {k r : Option ρ} (h : b = true) (h2 : k = r) : okK b k = r := by rw [h]; exact h2

theorem iteK_by (b : Bool) {x y r : Option ρ} (ht : b = true → x = r) (hf : b = false → y = r) : iteK b x y = r := by
  cases b with
  | true => exact ht rfl
  | false => exact hf rfl

theorem res_int {k : IntKind} {z z' : Int} {os : List Ob} (h : z = z') : (some (AV.int k z, os) : Option (AV × List Ob)) = some (AV.int k z', os) := by rw [h]
theorem res_bool {z z' : Bool} {os : List Ob} (h : z = z') : (some (AV.bool z, os) : Option (AV × List Ob)) = some (AV.bool z', os) := by rw [h]

variable {env : List (Nat × AV)} {obs : List (Ref × Ob)} {dst : Option Nat}

theorem v_index_sl {t e : TypeId} {eti : TI} {x y : Operand} {rows : List (List AV)} {k : IntKind} {i : Int} {row : List AV} (hE : elemT cfg.tab t = some (e, eti)) (hx : opA env x = .sl rows) (hy : opA env y = .int k i)
    (hi : rows[i.toNat]? = some row) (h0 : 0 ≤ i) (hl : row.length = eti.size) : opV cfg fi call dst env obs (.indexAddr t x y) = some (.rp row 0, []) := by
  rw [← evAV_opA] at hx hy
  show stepV cfg fi call (.indexAddr t x y) dst env obs = _
  simp only [stepV, stepOp, hE, indexS, hy, hx, hi, h0, hl, decide_true, beq_self_eq_true, Bool.and_self, when, if_true, Option.map_some]

theorem v_rem {t t' : TypeId} {x y : Operand} {k : IntKind} {a b : Int} (hx : opA env x = .int k a) (hy : opA env y = .int k b) (hb : b ≠ 0) : opV cfg fi call dst env obs (.binOp .rem t x y t') = some (.int k (a.tmod b), []) := by
  simp only [opV, hx, hy, binF, hb, ne_eq, not_false_eq_true, and_self, if_true, Option.map_some]
theorem v_quo {t t' : TypeId} {x y : Operand} {k : IntKind} {a b : Int} (hx : opA env x = .int k a) (hy : opA env y = .int k b) (hb : b ≠ 0) : opV cfg fi call dst env obs (.binOp .quo t x y t') = some (.int k (k.wrap (a.tdiv b)), []) := by
  simp only [opV, hx, hy, binF, hb, ne_eq, not_false_eq_true, and_self, if_true, Option.map_some]

/-! ### Calls -/
def callG0 (cfg : Cfg) (obs : Ref → Option Ob) (f : FuncId) (caps : List Ref) (vs : List AV) : List Ref := reach obs 64 (vs.flatMap (argRefs (cfg.br f)) ++ caps) []
def callZ0 (cfg : Cfg) (obs : Ref → Option Ob) (f : FuncId) (vs : List AV) : List Ref := if cfg.br f then [] else vs.flatMap fun v => (cellsV v).flatMap (frzS obs)

/-- What is handed to the callee. -/
def callPre (cfg : Cfg) (obs : Ref → Option Ob) (f : FuncId) (caps : List Ref) (vs : List AV) : Option (List AV × List Ob) :=
  match (callG0 cfg obs f caps vs).mapM fun r => (obsZ obs (callZ0 cfg obs f vs) r).map (renO (sig (callG0 cfg obs f caps vs))) with
  | none => none
  | some outs => some (vs.map (argA (obsZ obs (callZ0 cfg obs f vs)) (callG0 cfg obs f caps vs) (cfg.br f)) ++ (capsA caps).map (renS (sig (callG0 cfg obs f caps vs))), outs)

/-- What its answer makes of the caller's state. -/
def callPost (cfg : Cfg) (obs : Ref → Option Ob) (d : Nat) (f : FuncId) (caps : List Ref) (vs : List AV) (r : AV × List Ob) : VU :=
  if (callG0 cfg obs f caps vs).isEmpty && caps.isEmpty && !cfg.br f && r.2.isEmpty && scalarV r.1 then
    (if vs.all (argB obs false true) then some (r.1, []) else none)
  else
    if decide ((callG0 cfg obs f caps vs).length ≤ r.2.length) && vs.all (argB (obsZ obs (callZ0 cfg obs f vs)) (cfg.br f) false) && (List.range (r.2.length - (callG0 cfg obs f caps vs).length)).all (fun k => (obs (.loc d k)).isNone)
        && (callG0 cfg obs f caps vs).all (fun r => decide (r ∉ callZ0 cfg obs f vs)) then
      some (renV (tau (callG0 cfg obs f caps vs) d (r.2.length - (callG0 cfg obs f caps vs).length)) r.1,
        backU (callG0 cfg obs f caps vs) d (r.2.length - (callG0 cfg obs f caps vs).length) r.2 ++ (callZ0 cfg obs f vs).filterMap (fun r => (obs r).map fun o => (r, freezeO o)))
    else none

theorem freeze_vu (obs : Ref → Option Ob) (Z : List Ref) (s : Step) : ((s.freeze obs Z).v, (s.freeze obs Z).U) = (s.v, s.U ++ Z.filterMap (fun r => (obs r).map fun o => (r, freezeO o))) := by
  cases Z with
  | nil => simp [Step.freeze]
  | cons z Z => rfl

theorem callG'_form (env : Nat → AV) (obs : Ref → Option Ob) (d : Nat) (fo : Operand) (f : FuncId) (caps : List Ref) (xs : List Operand) (vs : List AV) (hvs : xs.map (evAV env) = vs) :
    (callG' cfg env obs call d fo f caps xs).map (fun s => (s.v, s.U)) = match callPre cfg obs f caps vs with
      | none => none
      | some (A, outs) => match call f A outs with
        | none => none
        | some r => callPost cfg obs d f caps vs r := by
  subst hvs
  have h : callG' cfg env obs call d fo f caps xs = match (callG0 cfg obs f caps (xs.map (evAV env))).mapM fun r => (obsZ obs (callZ0 cfg obs f (xs.map (evAV env))) r).map (renO (sig (callG0 cfg obs f caps (xs.map (evAV env))))) with
      | none => none
      | some outs => match call f ((xs.map (evAV env)).map (argA (obsZ obs (callZ0 cfg obs f (xs.map (evAV env)))) (callG0 cfg obs f caps (xs.map (evAV env))) (cfg.br f)) ++ (capsA caps).map (renS (sig (callG0 cfg obs f caps (xs.map (evAV env)))))) outs with
        | none => none
        | some (res, outs') =>
          if (callG0 cfg obs f caps (xs.map (evAV env))).isEmpty && caps.isEmpty && !cfg.br f && outs'.isEmpty && scalarV res then
            when ((xs.map (evAV env)).all (argB obs false true)) ⟨(fo, .clo f []) :: xs.map (fun x => (x, evAV env x)), (xs.map (evAV env)).flatMap (refsA obs), [], res, []⟩
          else
            when (decide ((callG0 cfg obs f caps (xs.map (evAV env))).length ≤ outs'.length) && (xs.map (evAV env)).all (argB (obsZ obs (callZ0 cfg obs f (xs.map (evAV env)))) (cfg.br f) false)
                && (List.range (outs'.length - (callG0 cfg obs f caps (xs.map (evAV env))).length)).all (fun k => (obs (.loc d k)).isNone) && (callG0 cfg obs f caps (xs.map (evAV env))).all (fun r => decide (r ∉ callZ0 cfg obs f (xs.map (evAV env)))))
              (Step.freeze obs (callZ0 cfg obs f (xs.map (evAV env))) ⟨(fo, .clo f caps) :: xs.map (fun x => (x, evAV env x)), (xs.map (evAV env)).flatMap (refsA (obsZ obs (callZ0 cfg obs f (xs.map (evAV env)))))
                ++ (callG0 cfg obs f caps (xs.map (evAV env))).filterMap (fun r => (obsZ obs (callZ0 cfg obs f (xs.map (evAV env))) r).map fun o => (r, o)), (List.range (outs'.length - (callG0 cfg obs f caps (xs.map (evAV env))).length)).map (Ref.loc d),
                renV (tau (callG0 cfg obs f caps (xs.map (evAV env))) d (outs'.length - (callG0 cfg obs f caps (xs.map (evAV env))).length)) res, backU (callG0 cfg obs f caps (xs.map (evAV env))) d (outs'.length - (callG0 cfg obs f caps (xs.map (evAV env))).length) outs'⟩) := rfl
  rw [h]
  unfold callPre callPost
  generalize xs.map (evAV env) = vs
  cases (callG0 cfg obs f caps vs).mapM fun r => (obsZ obs (callZ0 cfg obs f vs) r).map (renO (sig (callG0 cfg obs f caps vs))) with
  | none => rfl
  | some outs =>
    simp only
    cases call f (vs.map (argA (obsZ obs (callZ0 cfg obs f vs)) (callG0 cfg obs f caps vs) (cfg.br f)) ++ (capsA caps).map (renS (sig (callG0 cfg obs f caps vs)))) outs with
    | none => rfl
    | some r =>
      obtain ⟨res, outs'⟩ := r
      simp only
      split
      · rw [when_map]
      · rw [when_map, freeze_vu]

theorem v_call {c : Call} {fo : Operand} {f : FuncId} {caps : List Ref} {A : List AV} {outs : List Ob} {r : AV × List Ob} {v : AV} {U : List (Ref × Ob)} (hc : c.callee = .value fo) (hf : opA env fo = .clo f caps)
    (hcall : call f A outs = some r) (hpre : callPre cfg (lookR obs) f caps (c.args.toList.map (opA env)) = some (A, outs))
    (hpost : callPost cfg (lookR obs) (dst.getD 99999) f caps (c.args.toList.map (opA env)) r = some (v, U)) : opV cfg fi call dst env obs (.call c) = some (v, U) := by
  rw [← opV_eq]
  show stepV cfg fi call (.call c) dst env obs = _
  rw [← evAV_opA] at hf
  simp only [stepV, stepOp, hc, hf]
  rw [callG'_form _ _ _ _ _ _ _ (c.args.toList.map (opA env)) (List.map_congr_left fun x _ => evAV_opA env x), hpre]
  simp only [hcall]
  exact hpost

end
end Go.Sim
