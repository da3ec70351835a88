/- Types as a table; one operation's step, told locally; the plain operations. -/
import Derived.Test.YtkbeimibpeofbaaGreatSimF
import Derived.Laws.Slices
import Derived.Laws.MakeOwn
namespace Go.Sim

inductive TK where
  | other
  | str
  | bool
  | int (k : IntKind)
  | slice (e : TypeId)
  | struct (fs : List (Nat × TypeId))
  | array (n : Nat) (e : TypeId)

structure TI where
  k : TK
  size : Nat
  bytes : Nat
  zero : List AV
  /-- two of this type are compared cell by cell -/
  eqs : Bool

def TK.agg : TK → Bool
  | .struct _ => true
  | .array _ _ => true
  | _ => false

def TK.fits : TK → TypeDesc → Prop
  | .slice e, d => d = .slice e
  | .struct fs, d => ∃ fields, d = .struct fields ∧ fields.toList.map (fun f => (f.offset, f.type)) = fs
  | .array n e, d => d = .array n e
  | .str, d => d = .string
  | .bool, d => d = .bool
  | .int k, d => d = .int k
  | .other, d => match d with
    | .struct _ => False
    | .array _ _ => False
    | _ => True

def toV : AV → Value
  | .int k n => .int k n
  | .bool b => .bool b
  | .str s => .string s
  | .nils => .slice none 0 0
  | .nilp => .pointer none
  | _ => .nilFunc

def plainZ : AV → Bool
  | .int _ _ => true
  | .bool _ => true
  | .str _ => true
  | .nils => true
  | .nilp => true
  | .junk => true
  | _ => false

/-- The kind of a plain cell. -/
def kindV : AV → Value → Bool
  | .int k _, .int j _ => k == j
  | .bool _, .bool _ => true
  | .str _, .string _ => true
  | _, _ => false
def sameV : Value → Value → Bool
  | .int _ a, .int _ b => decide (a = b)
  | .bool a, .bool b => a == b
  | .string a, .string b => decide (a = b)
  | _, _ => false
def kindsV : List AV → List Value → Bool
  | [], [] => true
  | z :: zs, x :: xs => kindV z x && kindsV zs xs
  | _, _ => false
def samesV : List Value → List Value → Bool
  | [], [] => true
  | x :: xs, y :: ys => sameV x y && samesV xs ys
  | _, _ => false
/-- Two of type t are compared cell by cell. -/
def EqTy (P : Program) (t : TypeId) (zero : List AV) : Prop :=
  ∀ (w : World) (ox oy : Operand) (xs ys : List Value), kindsV zero xs = true → kindsV zero ys = true →
    (do eqGuard .eql t ox oy (.agg xs.toArray) (.agg ys.toArray); binOp .eql t (.agg xs.toArray) (.agg ys.toArray) : Sem Value).run P w = .ok (.bool (samesV xs ys)) w

def TIok (P : Program) (t : TypeId) (ti : TI) : Prop :=
  ∃ info z d, P.info? t = some info ∧ info.zero = some z ∧ info.size = ti.size ∧ info.bytes = ti.bytes ∧ P.underlying t = some d ∧ ti.k.fits d ∧
    z.cells.size = ti.size ∧ z.cells.toList = ti.zero.map toV ∧ ti.zero.all plainZ = true ∧ (ti.eqs = true → EqTy P t ti.zero)

abbrev Tab := List (Nat × TI)
def TabOk (P : Program) (tb : Tab) : Prop := ∀ p ∈ tb, TIok P p.1 p.2

def look {β : Type} : List (Nat × β) → Nat → Option β
  | [], _ => none
  | (k, v) :: r, t => if t = k then some v else look r t

theorem look_mem {β : Type} {l : List (Nat × β)} {t : Nat} {v : β} (h : look l t = some v) : (t, v) ∈ l := by
  induction l with
  | nil => simp [look] at h
  | cons p r ih =>
    obtain ⟨k, x⟩ := p
    simp only [look] at h
    split at h
    · rename_i hk; subst hk; have := Option.some.inj h; subst this; exact .head _
    · exact .tail _ (ih h)

theorem TabOk.at {P : Program} {tb : Tab} (h : TabOk P tb) {t : TypeId} {ti : TI} (ht : look tb t = some ti) : TIok P t ti := h (t, ti) (look_mem ht)

theorem toV_rep {M : Mem} {x : AV} (h : plainZ x = true) : RepS M x (toV x) := by
  cases x <;> first | rfl | simp [plainZ] at h

/-! ### Operands -/
def constAV : Value → AV
  | .bool b => .bool b
  | .int k n => .int k n
  | .string s => .str s
  | .slice none 0 0 => .nils
  | .pointer none => .nilp
  | _ => .junk

def evAV (env : Nat → AV) : Operand → AV
  | .tmp t => env t
  | .const v => constAV v
  | .func f => .clo f []
  | .global _ => .junk

theorem constAV_rep (M : Mem) (v : Value) : RepV M (constAV v) v := by
  unfold constAV
  split <;> first | exact .of (.of rfl) | trivial

theorem Rel.ev {C : Ctx} {n : Nat} {env : Nat → AV} {M : Mem} {a : Act} (h : Rel C n env M a) (x : Operand) : RepV M (evAV env x) (a.eval x) := by
  cases x with
  | tmp t => exact h.env t
  | const v => exact constAV_rep M v
  | func f => exact RepV.of (RepA.of ⟨[], rfl, rfl, fun j r hj => by simp at hj⟩)
  | global g => trivial

/-! ### Steps -/
def lookR (l : List (Ref × Ob)) (r : Ref) : Option Ob :=
  match l with
  | [] => none
  | (q, o) :: rest => if r = q then some o else lookR rest r

def updAll (obs : Ref → Option Ob) (U : List (Ref × Ob)) (r : Ref) : Option Ob :=
  match lookR U r with
  | some o => some o
  | none => obs r

theorem updAll_nil (obs : Ref → Option Ob) : updAll obs [] = obs := rfl
theorem updAll_one (obs : Ref → Option Ob) (r : Ref) (o : Ob) : updAll obs [(r, o)] = upd obs r (some o) := by
  funext q
  by_cases h : q = r <;> simp [updAll, lookR, upd, h]

def updD (env : Nat → AV) (d : Option Tmp) (v : AV) : Nat → AV :=
  match d with
  | some d => upd env d v
  | none => env

structure Step where
  need : List (Operand × AV)
  R : List (Ref × Ob)
  Nw : List Ref
  v : AV
  U : List (Ref × Ob)

def LStep (P : Program) (n : Nat) (o : Oper) (s : Step) : Prop :=
  ∀ (C : Ctx) (env : Nat → AV) (M : Mem) (a : Act) (K : Act → World → Prop) (Q : Exit → Act → World → Prop), Rel C n env M a →
    (∀ p ∈ s.need, evAV env p.1 = p.2) → (∀ p ∈ s.R, M.obs p.1 = some p.2) → (∀ r ∈ s.Nw, M.obs r = none) →
    (∀ M' a', Rel C n (updD env o.dst s.v) M' a' → M'.obs = updAll M.obs s.U → K a' M'.w) → o.wp P a M.w K Q

theorem Rel.put {C : Ctx} {n : Nat} {env : Nat → AV} {M M' : Mem} {a : Act} (h : Rel C n env M a) (hst : Stab M M') (hM : MemOk C M') {dst : Option Tmp} (hd : ∀ d, dst = some d → d < n)
    {x : AV} {v : Value} (hv : RepV M' x v) : Rel C n (updD env dst x) M' (a.put dst v) := by
  cases dst with
  | none => exact ⟨h.size, h.defers, fun t => hst.repV (h.env t), hM⟩
  | some d =>
    have hdn := hd d rfl
    refine ⟨by simpa [Act.put] using h.size, by simpa [Act.put] using h.defers, fun t => ?_, hM⟩
    by_cases ht : t = d
    · subst ht
      have : (a.put (some t) v).tmps.getD t undef = v := by
        simp [Act.put, Array.getD_eq_getD_getElem?, h.size, hdn]
      rw [this]
      simpa [updD, upd] using hv
    · have : (a.put (some d) v).tmps.getD t undef = a.tmps.getD t undef := by
        simp [Act.put, Array.getD_eq_getD_getElem?, Array.getElem?_setIfInBounds_ne (Ne.symm ht)]
      rw [this]
      have h1 : updD env (some d) x t = env t := by simp [updD, upd, ht]
      rw [h1]
      exact hst.repV (h.env t)

theorem LStep.val {P : Program} {n : Nat} {o : Oper} {s : Step} (hd : ∀ d, o.dst = some d → d < n)
    (h : ∀ (C : Ctx) (env : Nat → AV) (M : Mem) (a : Act), Rel C n env M a → (∀ p ∈ s.need, evAV env p.1 = p.2) → (∀ p ∈ s.R, M.obs p.1 = some p.2) → (∀ r ∈ s.Nw, M.obs r = none) →
      ∃ v M', (execOp a.eval o).run P M.w = .ok (.value v) M'.w ∧ Stab M M' ∧ MemOk C M' ∧ M'.obs = updAll M.obs s.U ∧ RepV M' s.v v) : LStep P n o s := by
  intro C env M a K Q hR h1 h2 h3 hK
  obtain ⟨v, M', hr, hst, hM, ho, hv⟩ := h C env M a hR h1 h2 h3
  unfold Oper.wp
  rw [hr, Oper.upon_value]
  exact hK M' _ (hR.put hst hM hd hv) ho

/-- Nothing of memory turns. -/
theorem LStep.pure {P : Program} {n : Nat} {o : Oper} {need : List (Operand × AV)} {R : List (Ref × Ob)} {x : AV} (hd : ∀ d, o.dst = some d → d < n)
    (h : ∀ (C : Ctx) (env : Nat → AV) (M : Mem) (a : Act), Rel C n env M a → (∀ p ∈ need, evAV env p.1 = p.2) → (∀ p ∈ R, M.obs p.1 = some p.2) →
      ∃ v, (execOp a.eval o).run P M.w = .ok (.value v) M.w ∧ RepV M x v) : LStep P n o ⟨need, R, [], x, []⟩ := by
  refine LStep.val hd fun C env M a hR h1 h2 _ => ?_
  obtain ⟨v, hr, hv⟩ := h C env M a hR h1 h2
  exact ⟨v, M, hr, Stab.refl M, hR.mem, rfl, hv⟩

theorem LStep.skip {P : Program} {n : Nat} {o : Oper} {s : Step} (hd : o.dst = none)
    (h : ∀ (C : Ctx) (env : Nat → AV) (M : Mem) (a : Act), Rel C n env M a → (∀ p ∈ s.need, evAV env p.1 = p.2) → (∀ p ∈ s.R, M.obs p.1 = some p.2) → (∀ r ∈ s.Nw, M.obs r = none) →
      ∃ M', (execOp a.eval o).run P M.w = .ok .skip M'.w ∧ Stab M M' ∧ MemOk C M' ∧ M'.obs = updAll M.obs s.U) : LStep P n o s := by
  intro C env M a K Q hR h1 h2 h3 hK
  obtain ⟨M', hr, hst, hM, ho⟩ := h C env M a hR h1 h2 h3
  unfold Oper.wp
  rw [hr, Oper.upon_skip]
  rw [hd] at hK ⊢
  exact hK M' _ ⟨hR.size, hR.defers, fun t => hst.repV (hR.env t), hM⟩ ho

/-- More may be asked for. -/
theorem LStep.needs {P : Program} {n : Nat} {o : Oper} {need need' : List (Operand × AV)} {R R' : List (Ref × Ob)} {Nw Nw' : List Ref} {v : AV} {U : List (Ref × Ob)}
    (h : LStep P n o ⟨need, R, Nw, v, U⟩) (h1 : ∀ p ∈ need, p ∈ need') (h2 : ∀ p ∈ R, p ∈ R') (h3 : ∀ p ∈ Nw, p ∈ Nw') : LStep P n o ⟨need', R', Nw', v, U⟩ :=
  fun C env M a K Q hR k1 k2 k3 hK => h C env M a K Q hR (fun p hp => k1 p (h1 p hp)) (fun p hp => k2 p (h2 p hp)) (fun p hp => k3 p (h3 p hp)) hK

theorem rep_bool {M : Mem} {b : Bool} {v : Value} (h : RepV M (.bool b) v) : v = .bool b := h
theorem rep_int {M : Mem} {k : IntKind} {i : Int} {v : Value} (h : RepV M (.int k i) v) : v = .int k i := h
theorem rep_str {M : Mem} {s : ByteArray} {v : Value} (h : RepV M (.str s) v) : v = .string s := h

section
variable {P : Program} {n : Nat} {o : Oper} (hd : ∀ d, o.dst = some d → d < n)
include hd

theorem ls_move {x : Operand} {v : AV} (ho : o.op = .move x ∨ o.op = .assign x) : LStep P n o ⟨[(x, v)], [], [], v, []⟩ := by
  refine .pure hd fun C env M a hR h1 _ => ⟨a.eval x, ?_, ?_⟩
  · rcases ho with ho | ho <;> simp [execOp, ho]
  · have := hR.ev x
    rwa [h1 (x, v) (by simp)] at this

theorem ls_pick {c x y : Operand} {b : Bool} {v : AV} (ho : o.op = .pick c x y) (need : List (Operand × AV)) (hc : (c, AV.bool b) ∈ need) (hv : ((if b then x else y), v) ∈ need) :
    LStep P n o ⟨need, [], [], v, []⟩ := by
  refine .pure hd fun C env M a hR h1 _ => ⟨a.eval (if b then x else y), ?_, ?_⟩
  · have := hR.ev c
    rw [h1 _ hc] at this
    have := rep_bool this
    cases b <;> simp [execOp, ho, this, asBool]
  · have := hR.ev (if b then x else y)
    rwa [h1 _ hv] at this
end

end Go.Sim
