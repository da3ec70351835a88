/- How a function of the program is run by rewriting. -/
import Derived.Test.YtkbeimibpeofbaaGreatSimZA
namespace Go.Sim

/-- The body, run, and what it leaves. -/
noncomputable def bodyE (P : Program) (cfg : Cfg) (f : FuncId) (fn : Func) (c : Code) (args : List AV) (outs : List Ob) : Option (AV × List Ob) :=
  match runC cfg f fn.ntmps (EV P cfg) LOOP c (initSt args outs) with
  | some (.nx, st) => finish cfg f fn outs.length st
  | some (.rt, st) => finish cfg f fn outs.length st
  | _ => none

theorem EV_body {P : Program} {cfg : Cfg} {f : FuncId} {fn : Func} {c : Code} {args : List AV} {outs : List Ob} {r : AV × List Ob} (hl : cfg.lib f = none) (hf : P.funcs[f]? = some fn) (hb : fn.body = some c) (hn : args.length ≤ fn.ntmps)
    (hname : (fn.name == "runtime.NumGoroutine") = false) (h : bodyE P cfg f fn c args outs = some r) : EV P cfg f args outs = some r := by
  refine EV_of hl hf hb hn hname ?_
  unfold bodyE at h
  split at h
  · rename_i st hr; exact ⟨_, st, hr, .inl rfl, h⟩
  · rename_i st hr; exact ⟨_, st, hr, .inr rfl, h⟩
  · cases h

section
variable {cfg : Cfg} {fi n : Nat} {call : FuncId → List AV → List Ob → Option (AV × List Ob)} {lp : (St → Option (Ex × St)) → (St → St) → St → Option (Ex × St)}

/-! The value of an operand in a list. -/
def lookA (l : List (Nat × AV)) (t : Nat) : AV :=
  match l with
  | [] => .junk
  | (k, v) :: r => if t = k then v else lookA r t
theorem envF_lookA (l : List (Nat × AV)) (t : Nat) : envF l t = lookA l t := by
  induction l with
  | nil => rfl
  | cons p l ih =>
    obtain ⟨k, v⟩ := p
    rw [look_cons, upd, lookA, ih]
def opA (l : List (Nat × AV)) : Operand → AV
  | .tmp t => lookA l t
  | .const v => constAV v
  | .func f => .clo f []
  | .global _ => .junk
theorem evAV_opA (l : List (Nat × AV)) (x : Operand) : evAV (envF l) x = opA l x := by
  cases x with
  | tmp t => exact envF_lookA l t
  | _ => rfl

def stepV (cfg : Cfg) (fi : FuncId) (call : FuncId → List AV → List Ob → Option (AV × List Ob)) (op : Op) (dst : Option Nat) (env : List (Nat × AV)) (obs : List (Ref × Ob)) : Option (AV × List (Ref × Ob)) :=
  (stepOp cfg fi (envF env) (lookR obs) call ⟨dst, op, 0, "", #[], none⟩).map fun s => (s.v, s.U)

/-! The operations, one by one. -/
abbrev VU := Option (AV × List (Ref × Ob))

def pickA (x y : AV) : AV → VU
  | .bool b => some (if b then x else y, [])
  | _ => none
def notA : AV → VU
  | .bool b => some (.bool (!b), [])
  | _ => none
def negA : AV → VU
  | .int k i => some (.int k (k.wrap (0 - i)), [])
  | _ => none
def convA : Option TI → Option IntKind → AV → VU
  | some _, some j, .int _ i => some (.int j (j.wrap i), [])
  | _, _, _ => none
def extrA (i : Nat) : AV → VU
  | .tup vs => (vs[i]?).map fun v => (v, [])
  | _ => none
def nilA : AV → VU
  | .ptr r off => some (.ptr r off, [])
  | .rp cells off => some (.rp cells off, [])
  | .clo f caps => some (.clo f caps, [])
  | _ => none
def newA (d : Nat) : Option Ob → Option (List AV) → VU
  | none, some xs => some (.ptr (.loc d 0) 0, [(.loc d 0, .box xs)])
  | _, _ => none
def segA (ti : TI) (cells : List AV) (off : Nat) : VU := if off + ti.size ≤ cells.length then some (segV ti cells off, []) else none
def loadO (ti : TI) (off : Nat) : Option Ob → VU
  | some (.box cells) => segA ti cells off
  | _ => none
def loadE (ti : TI) (m off : Nat) (n : Nat) : Option (List AV) → VU
  | some row => if n = m then segA ti row off else none
  | none => none
def loadR (ti : TI) (m i off : Nat) : Option Ob → VU
  | some (.arr _ _ rows _) => loadE ti m off rows.length rows[i]?
  | _ => none
def loadA (ti : TI) (obs : List (Ref × Ob)) : AV → VU
  | .rp cells off => segA ti cells off
  | .ptr r off => loadO ti off (lookR obs r)
  | .eptr r m i off => loadR ti m i off (lookR obs r)
  | _ => none
def loadT (obs : List (Ref × Ob)) (v : AV) : Option TI → VU
  | some ti => if 0 < ti.size then loadA ti obs v else none
  | none => none
def storeO (ti : TI) (r : Ref) (off : Nat) (xs : List AV) : Option Ob → VU
  | some (.box cells) => if xs.length = ti.size ∧ off + xs.length ≤ cells.length then some (.junk, [(r, .box (splice cells off xs))]) else none
  | _ => none
def fieldO (off : Nat) (r : Ref) (o' : Nat) : Option Ob → VU
  | some (.box cells) => if o' + off ≤ cells.length then some (.ptr r (o' + off), []) else none
  | _ => none
def fieldR (off : Nat) (r : Ref) (m j o' : Nat) : Option Ob → VU
  | some (.arr _ _ rows _) => if rows.length = m then some (.eptr r m j (o' + off), []) else none
  | _ => none
def fieldA (obs : List (Ref × Ob)) (v : AV) : Option (Nat × TI) → VU
  | some (off, _) => match v with
    | .ptr r o' => fieldO off r o' (lookR obs r)
    | .rp cells o' => some (.rp cells (o' + off), [])
    | .eptr r m j o' => fieldR off r m j o' (lookR obs r)
    | _ => none
  | none => none
def fieldVA (v : AV) : Option (Nat × TI) → VU
  | some (off, fti) => match v with
    | .agg cells => if off + fti.size ≤ cells.length then some (segV fti cells off, []) else none
    | _ => none
  | none => none
def rowA (eti : TI) (i : Int) : Option (List AV) → VU
  | some row => if 0 ≤ i ∧ row.length = eti.size then some (.rp row 0, []) else none
  | none => none
def rowF (eti : TI) (i : Int) (m n : Nat) : Option (List AV) → VU
  | some row => if (0 ≤ i ∧ row.length = eti.size) ∧ n = m then some (.rp row 0, []) else none
  | none => none
def idxO (eti : TI) (r : Ref) (m : Nat) (i : Int) : Option Ob → VU
  | some (.arr _ _ rows false) => rowF eti i m rows.length rows[i.toNat]?
  | some (.arr _ sz rows true) => if ((0 ≤ i ∧ i < m) ∧ rows.length = m) ∧ sz = eti.size then some (.eptr r m i.toNat 0, []) else none
  | _ => none
def idxA (obs : List (Ref × Ob)) (vx : AV) (eti : TI) : AV → VU
  | .int _ i => match vx with
    | .sl rows => rowA eti i rows[i.toNat]?
    | .own r m => idxO eti r m i (lookR obs r)
    | _ => none
  | _ => none
def byteA (ok : Bool) (vy : AV) : AV → VU
  | .str s => match vy with
    | .int _ i => if (ok = true ∧ 0 ≤ i) ∧ i < s.size then some (.int .u8 (bget s i.toNat), []) else none
    | _ => none
  | _ => none
def partsL (env : List (Nat × AV)) : List (Nat × Operand) → Option (List (Nat × List AV))
  | [] => some []
  | (i, x) :: rest => match cellsA (opA env x), partsL env rest with
    | some cells, some r => some ((i, cells) :: r)
    | _, _ => none
theorem partsL_eq (env : List (Nat × AV)) : ∀ (l : List (Nat × Operand)), partsA (envF env) l = partsL env l := by
  intro l
  induction l with
  | nil => rfl
  | cons p l ih =>
    obtain ⟨i, x⟩ := p
    simp only [partsA, partsL, evAV_opA, ih]
    rfl
def buildA (ti : TI) : Option (Nat → Option (Nat × Nat)) → Option (List (Nat × List AV)) → VU
  | some place, some ps => if fillB place ti.size ps = true then some (.agg (fillA place ti.zero ps), []) else none
  | _, _ => none

def lenA (st el : Bool) (other : VU) : AV → VU
  | .str s => if st = true then some (.int .i64 s.size, []) else none
  | .sl rows => if el = true then some (.int .i64 rows.length, []) else none
  | .nils => if el = true then some (.int .i64 0, []) else none
  | _ => other
def lenC (cfg : Cfg) (env : List (Nat × AV)) (other : VU) : Callee → List Operand → List TypeId → VU
  | .builtin .len, [x], [t] => lenA (isStrT cfg.tab t) (elemT cfg.tab t).isSome other (opA env x)
  | _, _, _ => other

/-- The operations that need no more than a look. -/
def opV (cfg : Cfg) (fi : FuncId) (call : FuncId → List AV → List Ob → Option (AV × List Ob)) (dst : Option Nat) (env : List (Nat × AV)) (obs : List (Ref × Ob)) : Op → VU
  | .move x => some (opA env x, [])
  | .assign x => some (opA env x, [])
  | .pick c x y => pickA (opA env x) (opA env y) (opA env c)
  | .binOp op t x y _ => (binF cfg.tab t op (opA env x) (opA env y)).map fun v => (v, [])
  | .unOp .not _ x => notA (opA env x)
  | .unOp .neg _ x => negA (opA env x)
  | .convert s d x => convA (look cfg.tab s) (isIntT cfg.tab d) (opA env x)
  | .extract x i => extrA i (opA env x)
  | .nilCheck x => nilA (opA env x)
  | .alloc t => newA (dst.getD 99999) (lookR obs (.loc (dst.getD 99999) 0)) ((look cfg.tab t).map (·.zero))
  | .box _ x => newA (dst.getD 99999) (lookR obs (.loc (dst.getD 99999) 0)) (cellsA (opA env x))
  | .load t x => loadT obs (opA env x) (look cfg.tab t)
  | .fieldAddr t x i => fieldA obs (opA env x) (fieldT cfg.tab t i)
  | .field t x i => fieldVA (opA env x) (fieldT cfg.tab t i)
  | .index t x y => byteA (isStrT cfg.tab t) (opA env y) (opA env x)
  | .call c => lenC cfg env (stepV cfg fi call (.call c) dst env obs) c.callee c.args.toList c.argTypes.toList
  | op => stepV cfg fi call op dst env obs

variable {env : List (Nat × AV)} {obs : List (Ref × Ob)} {dst : Option Nat}

theorem when_map (b : Bool) (s : Step) : (when b s).map (fun s => (s.v, s.U)) = if b = true then some (s.v, s.U) else none := by cases b <;> rfl

theorem opV_eq (op : Op) : stepV cfg fi call op dst env obs = opV cfg fi call dst env obs op := by
  unfold opV
  split
  · rw [← evAV_opA]; rfl
  · rw [← evAV_opA]; rfl
  · rename_i c x y
    rw [← evAV_opA, ← evAV_opA, ← evAV_opA]
    simp only [stepV, stepOp]
    cases evAV (envF env) c with
    | bool b => cases b <;> rfl
    | _ => rfl
  · rw [← evAV_opA, ← evAV_opA]
    simp only [stepV, stepOp, Option.map_map, Function.comp_def]
  · rename_i x
    rw [← evAV_opA]
    simp only [stepV, stepOp]
    cases evAV (envF env) x <;> rfl
  · rename_i x
    rw [← evAV_opA]
    simp only [stepV, stepOp]
    cases evAV (envF env) x <;> rfl
  · rename_i s d x
    rw [← evAV_opA]
    simp only [stepV, stepOp]
    cases evAV (envF env) x <;> cases look cfg.tab s <;> cases isIntT cfg.tab d <;> rfl
  · rename_i x i
    rw [← evAV_opA]
    simp only [stepV, stepOp]
    cases evAV (envF env) x with
    | tup vs => simp only [extrA]; cases vs[i]? <;> rfl
    | _ => rfl
  · rename_i x
    rw [← evAV_opA]
    simp only [stepV, stepOp]
    cases evAV (envF env) x <;> rfl
  · rename_i t
    simp only [stepV, stepOp]
    cases look cfg.tab t with
    | none => cases lookR obs (.loc (dst.getD 99999) 0) <;> rfl
    | some ti => cases lookR obs (.loc (dst.getD 99999) 0) <;> rfl
  · rename_i t x
    rw [← evAV_opA]
    simp only [stepV, stepOp]
    cases cellsA (evAV (envF env) x) <;> cases lookR obs (.loc (dst.getD 99999) 0) <;> rfl
  · rename_i t x
    rw [← evAV_opA]
    simp only [stepV, stepOp]
    cases look cfg.tab t with
    | none => rfl
    | some ti =>
      simp only [loadT]
      split
      · simp only [loadS]
        cases evAV (envF env) x <;> try rfl
        · rename_i r off
          simp only [loadA]
          cases lookR obs r with
          | none => rfl
          | some o =>
            cases o with
            | arr e sz rows wr => rfl
            | box cells => simp only [loadO, segA, when_map, decide_eq_true_eq]
        · rename_i r m i off
          simp only [loadA]
          cases lookR obs r with
          | none => rfl
          | some o =>
            cases o with
            | box cells => rfl
            | arr e sz rows wr =>
              simp only [loadR]
              cases rows[i]? with
              | none => rfl
              | some row =>
                simp only [loadE, segA, when_map, Bool.and_eq_true, decide_eq_true_eq]
                by_cases h1 : rows.length = m <;> by_cases h2 : off + ti.size ≤ row.length <;> simp [h1, h2]
        · simp only [loadA, segA, when_map, decide_eq_true_eq]
      · rfl
  · rename_i t x i
    rw [← evAV_opA]
    simp only [stepV, stepOp]
    cases fieldT cfg.tab t i with
    | none => rfl
    | some p =>
      obtain ⟨off, fti⟩ := p
      simp only [fieldA, fieldS]
      cases evAV (envF env) x <;> try rfl
      · rename_i r o'
        dsimp only
        cases lookR obs r with
        | none => rfl
        | some o =>
          cases o with
          | box cells => simp only [fieldO, when_map, decide_eq_true_eq]
          | arr e sz rows wr => rfl
      · rename_i r m j o'
        dsimp only
        cases lookR obs r with
        | none => rfl
        | some o =>
          cases o with
          | box cells => rfl
          | arr e sz rows wr => simp only [fieldR, when_map, decide_eq_true_eq]
  · rename_i t x i
    rw [← evAV_opA]
    simp only [stepV, stepOp]
    cases fieldT cfg.tab t i with
    | none => rfl
    | some p =>
      obtain ⟨off, fti⟩ := p
      simp only [fieldVA]
      cases evAV (envF env) x <;> try rfl
      simp only [when_map, decide_eq_true_eq]
  · rename_i t x y
    rw [← evAV_opA, ← evAV_opA]
    simp only [stepV, stepOp]
    cases evAV (envF env) x <;> try rfl
    cases evAV (envF env) y <;> try rfl
    simp only [byteA, when_map, decide_eq_true_eq, Bool.and_eq_true]
  · rename_i c
    unfold lenC
    split
    · rename_i x t h1 h2 h3
      rw [← evAV_opA]
      unfold lenA
      split
      · rename_i s hs
        simp only [stepV, stepOp, h1, h2, h3, builtinS, hs, when_map]
      · rename_i rows hs
        simp only [stepV, stepOp, h1, h2, h3, builtinS, hs]
        cases elemT cfg.tab t <;> rfl
      · rename_i hs
        simp only [stepV, stepOp, h1, h2, h3, builtinS, hs]
        cases elemT cfg.tab t <;> rfl
      · rfl
    · rfl
  · rfl

end

/-! ### With what comes behind -/
section
variable {ρ : Type}
def iteK (b : Bool) (x y : Option ρ) : Option ρ :=
  match b with
  | true => x
  | false => y
def okK (b : Bool) (k : Option ρ) : Option ρ :=
  match b with
  | true => k
  | false => none
def vuK (o : VU) (k : AV → List (Ref × Ob) → Option ρ) : Option ρ :=
  match o with
  | some (v, U) => k v U
  | none => none
def loopK (o : Option (Ex × St)) (k : Ex → St → Option ρ) : Option ρ :=
  match o with
  | some (e, st) => k e st
  | none => none
/-- A cell's head is looked at first. -/
def forceS (v : AV) (k : AV → Option ρ) : Option ρ :=
  match v with
  | .bool b => k (.bool b)
  | .int j i => k (.int j i)
  | .str s => k (.str s)
  | .sl rows => k (.sl rows)
  | .nils => k .nils
  | .nilp => k .nilp
  | .own r m => k (.own r m)
  | .ptr r o => k (.ptr r o)
  | .eptr r m i o => k (.eptr r m i o)
  | .rp c o => k (.rp c o)
  | .clo f c => k (.clo f c)
  | .agg c => k (.agg c)
  | .tup vs => k (.tup vs)
  | .junk => k .junk
theorem forceS_eq (v : AV) (k : AV → Option ρ) : forceS v k = k v := by cases v <;> rfl

def forceL (l : List AV) (k : List AV → Option ρ) : Option ρ :=
  match l with
  | [] => k []
  | v :: vs => forceS v fun v => forceL vs fun vs => k (v :: vs)
theorem forceL_eq (l : List AV) (k : List AV → Option ρ) : forceL l k = k l := by
  induction l generalizing k with
  | nil => rfl
  | cons v vs ih => simp only [forceL, forceS_eq, ih]
def forceA (v : AV) (k : AV → Option ρ) : Option ρ :=
  match v with
  | .agg c => forceL c fun c => k (.agg c)
  | v => k v
theorem forceA_eq (v : AV) (k : AV → Option ρ) : forceA v k = k v := by cases v <;> simp only [forceA, forceL_eq]
def forceT (l : List AV) (k : List AV → Option ρ) : Option ρ :=
  match l with
  | [] => k []
  | v :: vs => forceS v fun v => forceA v fun v => forceT vs fun vs => k (v :: vs)
theorem forceT_eq (l : List AV) (k : List AV → Option ρ) : forceT l k = k l := by
  induction l generalizing k with
  | nil => rfl
  | cons v vs ih => simp only [forceT, forceS_eq, forceA_eq, ih]
/-- The value's head is looked at first; so are its cells. -/
def forceK (v : AV) (k : AV → Option ρ) : Option ρ :=
  match v with
  | .bool b => k (.bool b)
  | .int j i => k (.int j i)
  | .str s => k (.str s)
  | .sl rows => k (.sl rows)
  | .nils => k .nils
  | .nilp => k .nilp
  | .own r m => k (.own r m)
  | .ptr r o => k (.ptr r o)
  | .eptr r m i o => k (.eptr r m i o)
  | .rp c o => forceL c fun c => k (.rp c o)
  | .clo f c => k (.clo f c)
  | .agg c => forceL c fun c => k (.agg c)
  | .tup vs => forceT vs fun vs => k (.tup vs)
  | .junk => k .junk
theorem forceK_eq (v : AV) (k : AV → Option ρ) : forceK v k = k v := by cases v <;> simp only [forceK, forceL_eq, forceT_eq]
def forceRows (l : List (List AV)) (k : List (List AV) → Option ρ) : Option ρ :=
  match l with
  | [] => k []
  | v :: vs => forceL v fun v => forceRows vs fun vs => k (v :: vs)
theorem forceRows_eq (l : List (List AV)) (k : List (List AV) → Option ρ) : forceRows l k = k l := by
  induction l generalizing k with
  | nil => rfl
  | cons v vs ih => simp only [forceRows, forceL_eq, ih]
def forceR (r : Ref) (k : Ref → Option ρ) : Option ρ :=
  match r with
  | .loc d j => k (.loc d j)
  | .out j => k (.out j)
theorem forceR_eq (r : Ref) (k : Ref → Option ρ) : forceR r k = k r := by cases r <;> rfl
def forceB (b : Bool) (k : Bool → Option ρ) : Option ρ :=
  match b with
  | true => k true
  | false => k false
theorem forceB_eq (b : Bool) (k : Bool → Option ρ) : forceB b k = k b := by cases b <;> rfl
def forceO (o : Ob) (k : Ob → Option ρ) : Option ρ :=
  match o with
  | .box cells => forceL cells fun cells => k (.box cells)
  | .arr e sz rows wr => forceB wr fun wr => k (.arr e sz rows wr)
theorem forceO_eq (o : Ob) (k : Ob → Option ρ) : forceO o k = k o := by cases o <;> simp only [forceO, forceL_eq, forceB_eq]
def forceU (l : List (Ref × Ob)) (k : List (Ref × Ob) → Option ρ) : Option ρ :=
  match l with
  | [] => k []
  | (r, o) :: rest => forceR r fun r => forceO o fun o => forceU rest fun rest => k ((r, o) :: rest)
theorem forceU_eq (l : List (Ref × Ob)) (k : List (Ref × Ob) → Option ρ) : forceU l k = k l := by
  induction l generalizing k with
  | nil => rfl
  | cons p l ih => obtain ⟨r, o⟩ := p; simp only [forceU, forceR_eq, forceO_eq, ih]
/-- What is made of parts is looked at, too. -/
def forceB1 (r : Ref) (o : Ob) (k : List (Ref × Ob) → Option ρ) : Option ρ :=
  match o with
  | .box cells => k [(r, .box cells)]
  | .arr e sz rows wr => forceRows rows fun rows => k [(r, .arr e sz rows wr)]
theorem forceB1_eq (r : Ref) (o : Ob) (k : List (Ref × Ob) → Option ρ) : forceB1 r o k = k [(r, o)] := by cases o <;> simp only [forceB1, forceRows_eq]
def partsK (op : Op) (U : List (Ref × Ob)) (k : List (Ref × Ob) → Option ρ) : Option ρ :=
  match op, U with
  | .buildSlice _ _ _, [(r, o)] => forceB1 r o k
  | _, U => k U
theorem partsK_eq (op : Op) (U : List (Ref × Ob)) (k : List (Ref × Ob) → Option ρ) : partsK op U k = k U := by
  unfold partsK
  split
  · exact forceB1_eq _ _ _
  · rfl
/-- The objects behind an operation, their heads looked at. -/
def objK (U obs : List (Ref × Ob)) (k : List (Ref × Ob) → Option ρ) : Option ρ :=
  match U with
  | [] => k obs
  | p :: U => forceU (putAll (p :: U) obs) k
theorem objK_eq (U obs : List (Ref × Ob)) (k : List (Ref × Ob) → Option ρ) : objK U obs k = k (putAll U obs) := by
  cases U with
  | nil => rfl
  | cons p U => simp only [objK, forceU_eq]

/-! ### Results -/
def closeSK (obs : List (Ref × Ob)) (v : AV) (k : AV → Option ρ) : Option ρ :=
  match v with
  | .own r n => match lookR obs r with
    | some (.arr _ _ rows _) => okK (Nat.beq rows.length n) (k (.sl rows))
    | _ => none
  | .nils => k (.sl [])
  | .bool b => k (.bool b)
  | .int j i => k (.int j i)
  | .str s => k (.str s)
  | .sl rows => k (.sl rows)
  | .nilp => k .nilp
  | .ptr r o => k (.ptr r o)
  | .eptr r m i o => k (.eptr r m i o)
  | .rp c o => k (.rp c o)
  | .clo f c => k (.clo f c)
  | .agg c => k (.agg c)
  | .tup vs => k (.tup vs)
  | .junk => k .junk
def closeLK (obs : List (Ref × Ob)) (l : List AV) (k : List AV → Option ρ) : Option ρ :=
  match l with
  | [] => k []
  | v :: vs => closeSK obs v fun v => closeLK obs vs fun vs => k (v :: vs)
def closeAK (obs : List (Ref × Ob)) (v : AV) (k : AV → Option ρ) : Option ρ :=
  match v with
  | .agg cells => closeLK obs cells fun cells => k (.agg cells)
  | v => closeSK obs v k
def closeTK (obs : List (Ref × Ob)) (l : List AV) (k : List AV → Option ρ) : Option ρ :=
  match l with
  | [] => k []
  | v :: vs => closeAK obs v fun v => closeTK obs vs fun vs => k (v :: vs)
def finishW (cfg : Cfg) (f : FuncId) (k : Nat) (obs : List (Ref × Ob)) (vs ws : List AV) : Option (AV × List Ob) :=
  if vs.any isTup then none else
  let Z := if cfg.cl f then vs.flatMap fun v => (cellsV v).flatMap (frzS (lookR obs)) else []
  let ob := obsZ (lookR obs) Z
  let outs := (List.range k).map Ref.out
  let locs := (reach ob 200 (ws.flatMap refsV ++ outs.flatMap fun r => match ob r with | some o => refsO o | none => []) []).filter isLoc
  let K := renames outs locs (fun i => .out (k + i))
  match K.mapM fun p => (ob p.1).map (renO (assocR K)) with
  | none => none
  | some obs' => some (renV (assocR K) (match ws with | [w] => w | ws => .tup ws), obs')
def finK (cfg : Cfg) (f : FuncId) (fn : Func) (k : Nat) (env : List (Nat × AV)) (obs : List (Ref × Ob)) : Option (AV × List Ob) :=
  match fn.results.toList.mapM (resOne cfg.tab ⟨env, obs⟩) with
  | none => none
  | some vs => forceT vs fun vs => match cfg.cl f with
    | true => closeTK obs vs fun ws => finishW cfg f k obs vs ws
    | false => finishW cfg f k obs vs vs

variable (cfg : Cfg) (fi n : Nat) (call : FuncId → List AV → List Ob → Option (AV × List Ob)) (lp : (St → Option (Ex × St)) → (St → St) → St → Option (Ex × St))

def opK (o : Oper) (env : List (Nat × AV)) (obs : List (Ref × Ob)) (k : List (Nat × AV) → List (Ref × Ob) → Option ρ) : Option ρ :=
  match o.dst with
  | some d => okK (Nat.blt d n) (vuK (opV cfg fi call (some d) env obs o.op) fun v U => forceK v fun v => partsK o.op U fun U => objK U obs fun obs => k ((d, v) :: env) obs)
  | none => vuK (opV cfg fi call none env obs o.op) fun _ U => objK U obs fun obs => k env obs

def skipK (o : Oper) (env : List (Nat × AV)) (obs : List (Ref × Ob)) (k : List (Nat × AV) → List (Ref × Ob) → Option ρ) : Option ρ :=
  match o.dst with
  | some d => okK (Nat.blt d n) (k ((d, .tup []) :: env) obs)
  | none => k env obs

def yT (ops : Array Oper) (j : Nat) : Option Nat :=
  match ops[j]? with
  | some oj => oj.dst
  | none => none

def opsK (ops : Array Oper) : List Oper → List (Nat × AV) → List (Ref × Ob) → (List (Nat × AV) → List (Ref × Ob) → Option ρ) → Option ρ
  | [], env, obs, k => k env obs
  | o :: os, env, obs, k => match o.guard with
    | none => opK cfg fi n call o env obs fun env obs => opsK ops os env obs k
    | some (j, b) => match yT ops j with
      | none => none
      | some d => okK (Nat.blt d n) (match lookA env d with
        | .bool c => iteK (c == b) (opK cfg fi n call o ((d, .bool b) :: env) obs fun env obs => opsK ops os env obs k) (skipK n o ((d, .bool (!b)) :: env) obs fun env obs => opsK ops os env obs k)
        | .tup [] => skipK n o env obs fun env obs => opsK ops os env obs k
        | _ => none)

/-- The same; it is kept which ones made and changed nothing. -/
def opQ (o : Oper) (env : List (Nat × AV)) (obs : List (Ref × Ob)) (k : Bool → List (Nat × AV) → List (Ref × Ob) → Option ρ) : Option ρ :=
  match o.dst with
  | some d => okK (Nat.blt d n) (vuK (opV cfg fi call (some d) env obs o.op) fun v U => forceK v fun v => partsK o.op U fun U => forceB U.isEmpty fun q => objK U obs fun obs => k q ((d, v) :: env) obs)
  | none => vuK (opV cfg fi call none env obs o.op) fun _ U => forceB U.isEmpty fun q => objK U obs fun obs => k q env obs
def opsQ (ops : Array Oper) : List Oper → List Bool → List (Nat × AV) → List (Ref × Ob) → (List Bool → List (Nat × AV) → List (Ref × Ob) → Option ρ) → Option ρ
  | [], qs, env, obs, k => k qs.reverse env obs
  | o :: os, qs, env, obs, k => match o.guard with
    | none => opQ cfg fi n call o env obs fun q env obs => opsQ ops os (q :: qs) env obs k
    | some (j, b) => match yT ops j with
      | none => none
      | some d => okK (Nat.blt d n) (match lookA env d with
        | .bool c => iteK (c == b) (opQ cfg fi n call o ((d, .bool b) :: env) obs fun q env obs => opsQ ops os (q :: qs) env obs k) (skipK n o ((d, .bool (!b)) :: env) obs fun env obs => opsQ ops os (true :: qs) env obs k)
        | .tup [] => skipK n o env obs fun env obs => opsQ ops os (true :: qs) env obs k
        | _ => none)

def rebL (c : Operand) (t : Bool) (env : List (Nat × AV)) : List (Nat × AV) :=
  match c with
  | .tmp d => (d, .bool t) :: env
  | _ => env

def codeK : Code → List (Nat × AV) → List (Ref × Ob) → (Ex → List (Nat × AV) → List (Ref × Ob) → Option ρ) → Option ρ
  | .skip, env, obs, k => k .nx env obs
  | .region _ ops drw, env, obs, k => match !drw || orderS ops with
    | true => opsK cfg fi n call ops ops.toList env obs (k .nx)
    | false => opsQ cfg fi n call ops ops.toList [] env obs fun qs env obs => okK (orderQ ops qs) (k .nx env obs)
  | .seq a b, env, obs, k => codeK a env obs fun e env obs => match e with
    | .nx => codeK b env obs k
    | e => k e env obs
  | .cond c a b, env, obs, k => match opA env c with
    | .bool t => iteK t (codeK a (rebL c true env) obs k) (codeK b (rebL c false env) obs k)
    | _ => none
  | .block id c, env, obs, k => codeK c env obs fun e env obs => match e with
    | .ex id' => iteK (Nat.beq id' id) (k .nx env obs) (k (.ex id') env obs)
    | e => k e env obs
  | .loop c, env, obs, k => loopK (lp (runC cfg fi n call lp c) (St.norm (cfg.lv fi (loopId c))) ⟨env, obs⟩) fun e st => k e st.env st.obs
  | .exit id, env, obs, k => k (.ex id) env obs
  | .ret, env, obs, k => k .rt env obs
  | _, _, _, _ => none
end

section
variable {ρ : Type} {cfg : Cfg} {fi n : Nat} {call : FuncId → List AV → List Ob → Option (AV × List Ob)} {lp : (St → Option (Ex × St)) → (St → St) → St → Option (Ex × St)}

theorem closeSK_some {obs : List (Ref × Ob)} {v : AV} {k : AV → Option ρ} {r : ρ} (h : closeSK obs v k = some r) : k (closeS (lookR obs) v) = some r := by
  unfold closeSK at h
  split at h
  · rename_i q n
    split at h
    · rename_i e sz rows wr ho
      unfold okK at h
      split at h
      · rename_i hb
        simp only [closeS, ho, Nat.eq_of_beq_eq_true hb, if_true]
        exact h
      · cases h
    · cases h
  all_goals exact h
theorem closeLK_some {obs : List (Ref × Ob)} : ∀ (l : List AV) {k : List AV → Option ρ} {r : ρ}, closeLK obs l k = some r → k (l.map (closeS (lookR obs))) = some r := by
  intro l
  induction l with
  | nil => intro k r h; exact h
  | cons v vs ih => intro k r h; exact ih (closeSK_some h)
theorem closeAK_some {obs : List (Ref × Ob)} {v : AV} {k : AV → Option ρ} {r : ρ} (h : closeAK obs v k = some r) : k (closeA (lookR obs) v) = some r := by
  unfold closeAK at h
  split at h
  · exact closeLK_some _ h
  · rename_i hv
    have h1 : closeA (lookR obs) v = closeS (lookR obs) v := by
      cases v with
      | agg cells => exact absurd rfl (hv cells)
      | _ => rfl
    rw [h1]
    exact closeSK_some h
theorem closeTK_some {obs : List (Ref × Ob)} : ∀ (l : List AV) {k : List AV → Option ρ} {r : ρ}, closeTK obs l k = some r → k (l.map (closeA (lookR obs))) = some r := by
  intro l
  induction l with
  | nil => intro k r h; exact h
  | cons v vs ih => intro k r h; exact ih (closeAK_some h)
theorem finish_W (cfg : Cfg) (f : FuncId) (fn : Func) (k : Nat) (env : List (Nat × AV)) (obs : List (Ref × Ob)) : finish cfg f fn k ⟨env, obs⟩ = match fn.results.toList.mapM (resOne cfg.tab ⟨env, obs⟩) with
    | none => none
    | some vs => finishW cfg f k obs vs (if cfg.cl f then vs.map (closeA (lookR obs)) else vs) := rfl
theorem finK_some {cfg : Cfg} {f : FuncId} {fn : Func} {k : Nat} {env : List (Nat × AV)} {obs : List (Ref × Ob)} {r : AV × List Ob} (h : finK cfg f fn k env obs = some r) : finish cfg f fn k ⟨env, obs⟩ = some r := by
  rw [finish_W]
  unfold finK at h
  split at h
  · cases h
  · rename_i vs hvs
    rw [forceT_eq] at h
    split at h
    · rename_i hc
      rw [hc]
      exact closeTK_some (k := fun ws => finishW cfg f k obs vs ws) _ h
    · rename_i hc
      rw [hc]
      exact h
theorem iteK_eq (b : Bool) (x y : Option ρ) : iteK b x y = if b then x else y := by cases b <;> rfl
theorem okK_some {b : Bool} {k : Option ρ} {r : ρ} (h : okK b k = some r) : b = true ∧ k = some r := by
  cases b with
  | false => cases h
  | true => exact ⟨rfl, h⟩

theorem stepOp_opV {o : Oper} {env : List (Nat × AV)} {obs : List (Ref × Ob)} {v : AV} {U : List (Ref × Ob)} (h : opV cfg fi call o.dst env obs o.op = some (v, U)) :
    ∃ s, stepOp cfg fi (envF env) (lookR obs) call o = some s ∧ s.v = v ∧ s.U = U := by
  rw [← opV_eq] at h
  obtain ⟨s, hs, he⟩ := Option.map_eq_some_iff.1 h
  simp only [Prod.mk.injEq] at he
  exact ⟨s, hs, he.1, he.2⟩

theorem opK_some {o : Oper} {env env0 : List (Nat × AV)} {obs : List (Ref × Ob)} {k : List (Nat × AV) → List (Ref × Ob) → Option ρ} {r : ρ} (h : opK cfg fi n call o env obs k = some r) (hE : envF env = envF env0) :
    dstOk n o = true ∧ ∃ s, stepOp cfg fi (envF env0) (lookR obs) call o = some s ∧ k (putE o.dst s.v env) (putAll s.U obs) = some r := by
  unfold opK at h
  split at h
  · rename_i d hd
    obtain ⟨h1, h2⟩ := okK_some h
    have hdn : d < n := Nat.le_of_ble_eq_true h1
    refine ⟨by simp [dstOk, hd, hdn], ?_⟩
    unfold vuK at h2
    split at h2
    · rename_i v U hv
      rw [← hd] at hv
      obtain ⟨s, hs, rfl, rfl⟩ := stepOp_opV hv
      simp only [forceK_eq, partsK_eq, objK_eq] at h2
      exact ⟨s, by rw [← hE]; exact hs, by rw [hd]; exact h2⟩
    · cases h2
  · rename_i hd
    refine ⟨by simp [dstOk, hd], ?_⟩
    unfold vuK at h
    split at h
    · rename_i v U hv
      rw [← hd] at hv
      obtain ⟨s, hs, rfl, rfl⟩ := stepOp_opV hv
      simp only [objK_eq] at h
      exact ⟨s, by rw [← hE]; exact hs, by rw [hd]; exact h⟩
    · cases h

theorem skipK_some {o : Oper} {env : List (Nat × AV)} {obs : List (Ref × Ob)} {k : List (Nat × AV) → List (Ref × Ob) → Option ρ} {r : ρ} (h : skipK n o env obs k = some r) :
    dstOk n o = true ∧ k (putE o.dst (.tup []) env) obs = some r := by
  unfold skipK at h
  split at h
  · rename_i d hd
    obtain ⟨h1, h2⟩ := okK_some h
    have hdn : d < n := Nat.le_of_ble_eq_true h1
    exact ⟨by simp [dstOk, hd, hdn], by rw [hd]; exact h2⟩
  · rename_i hd
    exact ⟨by simp [dstOk, hd], by rw [hd]; exact h⟩

theorem opsK_some {ops : Array Oper} : ∀ (l : List Oper) (env : List (Nat × AV)) (obs : List (Ref × Ob)) (k : List (Nat × AV) → List (Ref × Ob) → Option ρ) (r : ρ), opsK cfg fi n call ops l env obs k = some r →
    ∃ st, runOps cfg fi n call ops l ⟨env, obs⟩ = some st ∧ k st.env st.obs = some r := by
  intro l
  induction l with
  | nil => intro env obs k r h; exact ⟨_, rfl, h⟩
  | cons o l ih =>
    intro env obs k r h
    simp only [opsK] at h
    split at h
    · rename_i hg
      obtain ⟨hd, s, hs, hk⟩ := opK_some h rfl
      obtain ⟨st, h1, h2⟩ := ih _ _ _ _ hk
      refine ⟨st, ?_, h2⟩
      simp only [runOps, stepG, hd, if_true, hg, hs, St.step, rebG]
      exact h1
    · rename_i j b hg
      split at h
      · cases h
      · rename_i d hd
        obtain ⟨hdn, h⟩ := okK_some h
        have hdn : d < n := Nat.le_of_ble_eq_true hdn
        have hoj : ∃ oj, ops[j]? = some oj ∧ oj.dst = some d := by
          unfold yT at hd
          split at hd
          · rename_i oj hj; exact ⟨oj, hj, hd⟩
          · cases hd
        obtain ⟨oj, hj, hdj⟩ := hoj
        split at h
        · rename_i c hc
          have hc : envF env d = .bool c := by rw [envF_lookA]; exact hc
          have hy : yieldA ops (envF env) j = some (d, .bool c, some c) := by simp only [yieldA, hj, hdj, hc]
          have hE : ∀ t, c = t → envF ((d, .bool t) :: env) = envF env := by
            intro t ht
            subst ht
            funext u
            rw [look_cons, ← hc, updE_same]
          rw [iteK_eq] at h
          split at h
          · rename_i hcb
            have hcb : c = b := by simpa using hcb
            subst hcb
            obtain ⟨hdo, s, hs, hk⟩ := opK_some h (hE c rfl)
            obtain ⟨st, h1, h2⟩ := ih _ _ _ _ hk
            refine ⟨st, ?_, h2⟩
            simp only [runOps, stepG, hdo, if_true, hg, hy, hdn, hs, Option.map_some, St.step, rebG]
            exact h1
          · rename_i hcb
            have hcb : ¬ c = b := by simpa using hcb
            obtain ⟨hdo, hk⟩ := skipK_some h
            obtain ⟨st, h1, h2⟩ := ih _ _ _ _ hk
            refine ⟨st, ?_, h2⟩
            have hsb : (some c = some b) = False := by simp [hcb]
            simp only [runOps, stepG, hdo, if_true, hg, hy, hdn, hsb, if_false, hcb, St.step, rebG, putAll]
            exact h1
        · rename_i hc
          have hc : envF env d = .tup [] := by rw [envF_lookA]; exact hc
          have hy : yieldA ops (envF env) j = some (d, .tup [], none) := by simp only [yieldA, hj, hdj, hc]
          obtain ⟨hdo, hk⟩ := skipK_some h
          obtain ⟨st, h1, h2⟩ := ih _ _ _ _ hk
          refine ⟨st, ?_, h2⟩
          have hsb : (none = some b) = False := by simp
          simp only [runOps, stepG, hdo, if_true, hg, hy, hdn, hsb, if_false, St.step, rebG, putAll]
          exact h1
        · cases h

theorem opQ_some {o : Oper} {env env0 : List (Nat × AV)} {obs : List (Ref × Ob)} {k : Bool → List (Nat × AV) → List (Ref × Ob) → Option ρ} {r : ρ} (h : opQ cfg fi n call o env obs k = some r) (hE : envF env = envF env0) :
    dstOk n o = true ∧ ∃ s, stepOp cfg fi (envF env0) (lookR obs) call o = some s ∧ k s.U.isEmpty (putE o.dst s.v env) (putAll s.U obs) = some r := by
  unfold opQ at h
  split at h
  · rename_i d hd
    obtain ⟨h1, h2⟩ := okK_some h
    have hdn : d < n := Nat.le_of_ble_eq_true h1
    refine ⟨by simp [dstOk, hd, hdn], ?_⟩
    unfold vuK at h2
    split at h2
    · rename_i v U hv
      rw [← hd] at hv
      obtain ⟨s, hs, rfl, rfl⟩ := stepOp_opV hv
      simp only [forceK_eq, partsK_eq, objK_eq, forceB_eq] at h2
      exact ⟨s, by rw [← hE]; exact hs, by rw [hd]; exact h2⟩
    · cases h2
  · rename_i hd
    refine ⟨by simp [dstOk, hd], ?_⟩
    unfold vuK at h
    split at h
    · rename_i v U hv
      rw [← hd] at hv
      obtain ⟨s, hs, rfl, rfl⟩ := stepOp_opV hv
      simp only [objK_eq, forceB_eq] at h
      exact ⟨s, by rw [← hE]; exact hs, by rw [hd]; exact h⟩
    · cases h

theorem opsQ_some {ops : Array Oper} : ∀ (l : List Oper) (qs : List Bool) (env : List (Nat × AV)) (obs : List (Ref × Ob)) (k : List Bool → List (Nat × AV) → List (Ref × Ob) → Option ρ) (r : ρ), opsQ cfg fi n call ops l qs env obs k = some r →
    ∃ ss st, runOpsS cfg fi n call ops l ⟨env, obs⟩ = some (ss, st) ∧ k (qs.reverse ++ ss.map (·.U.isEmpty)) st.env st.obs = some r := by
  intro l
  induction l with
  | nil => intro qs env obs k r h; exact ⟨[], _, rfl, by simpa [opsQ] using h⟩
  | cons o l ih =>
    intro qs env obs k r h
    simp only [opsQ] at h
    split at h
    · rename_i hg
      obtain ⟨hd, s, hs, hk⟩ := opQ_some h rfl
      obtain ⟨ss, st, h1, h2⟩ := ih _ _ _ _ _ hk
      refine ⟨s :: ss, st, ?_, by simpa using h2⟩
      have h1' : runOpsS cfg fi n call ops l (St.step ops ⟨env, obs⟩ o s) = some (ss, st) := by simp only [St.step, rebG, hg]; exact h1
      simp only [runOpsS, stepG, hd, if_true, hg, hs, h1']
    · rename_i j b hg
      split at h
      · cases h
      · rename_i d hd
        obtain ⟨hdn, h⟩ := okK_some h
        have hdn : d < n := Nat.le_of_ble_eq_true hdn
        have hoj : ∃ oj, ops[j]? = some oj ∧ oj.dst = some d := by
          unfold yT at hd
          split at hd
          · rename_i oj hj; exact ⟨oj, hj, hd⟩
          · cases hd
        obtain ⟨oj, hj, hdj⟩ := hoj
        split at h
        · rename_i c hc
          have hc : envF env d = .bool c := by rw [envF_lookA]; exact hc
          have hy : yieldA ops (envF env) j = some (d, .bool c, some c) := by simp only [yieldA, hj, hdj, hc]
          have hE : ∀ t, c = t → envF ((d, .bool t) :: env) = envF env := by
            intro t ht
            subst ht
            funext u
            rw [look_cons, ← hc, updE_same]
          rw [iteK_eq] at h
          split at h
          · rename_i hcb
            have hcb : c = b := by simpa using hcb
            subst hcb
            obtain ⟨hdo, s, hs, hk⟩ := opQ_some h (hE c rfl)
            obtain ⟨ss, st, h1, h2⟩ := ih _ _ _ _ _ hk
            refine ⟨{ s with need := (.tmp d, .bool c) :: s.need } :: ss, st, ?_, by simpa using h2⟩
            have h1' : runOpsS cfg fi n call ops l (St.step ops ⟨env, obs⟩ o { s with need := (.tmp d, .bool c) :: s.need }) = some (ss, st) := by simp only [St.step, rebG, hg, hy, if_true]; exact h1
            simp only [runOpsS, stepG, hdo, if_true, hg, hy, hdn, hs, Option.map_some, h1']
          · rename_i hcb
            have hcb : ¬ c = b := by simpa using hcb
            obtain ⟨hdo, hk⟩ := skipK_some h
            obtain ⟨ss, st, h1, h2⟩ := ih _ _ _ _ _ hk
            have hsb : (some c = some b) = False := by simp [hcb]
            refine ⟨⟨[(.tmp d, .bool c)], [], [], .tup [], []⟩ :: ss, st, ?_, by simpa using h2⟩
            have h1' : runOpsS cfg fi n call ops l (St.step ops ⟨env, obs⟩ o ⟨[(.tmp d, .bool c)], [], [], .tup [], []⟩) = some (ss, st) := by simp only [St.step, rebG, hg, hy, hcb, if_false, putAll]; exact h1
            simp only [runOpsS, stepG, hdo, if_true, hg, hy, hdn, hsb, if_false, h1']
        · rename_i hc
          have hc : envF env d = .tup [] := by rw [envF_lookA]; exact hc
          have hy : yieldA ops (envF env) j = some (d, .tup [], none) := by simp only [yieldA, hj, hdj, hc]
          obtain ⟨hdo, hk⟩ := skipK_some h
          obtain ⟨ss, st, h1, h2⟩ := ih _ _ _ _ _ hk
          have hsb : (none = some b) = False := by simp
          refine ⟨⟨[(.tmp d, .tup [])], [], [], .tup [], []⟩ :: ss, st, ?_, by simpa using h2⟩
          have h1' : runOpsS cfg fi n call ops l (St.step ops ⟨env, obs⟩ o ⟨[(.tmp d, .tup [])], [], [], .tup [], []⟩) = some (ss, st) := by simp only [St.step, rebG, hg, hy, putAll]; exact h1
          simp only [runOpsS, stepG, hdo, if_true, hg, hy, hdn, hsb, if_false, h1']
        · cases h

theorem codeK_some : ∀ (c : Code) (env : List (Nat × AV)) (obs : List (Ref × Ob)) (k : Ex → List (Nat × AV) → List (Ref × Ob) → Option ρ) (r : ρ), codeK cfg fi n call lp c env obs k = some r →
    ∃ e st, runC cfg fi n call lp c ⟨env, obs⟩ = some (e, st) ∧ k e st.env st.obs = some r := by
  intro c
  induction c with
  | skip => intro env obs k r h; exact ⟨_, _, rfl, h⟩
  | exit id => intro env obs k r h; exact ⟨_, _, rfl, h⟩
  | ret => intro env obs k r h; exact ⟨_, _, rfl, h⟩
  | region id ops drw =>
    intro env obs k r h
    simp only [codeK] at h
    split at h
    · rename_i h1
      obtain ⟨st, h3, h4⟩ := opsK_some _ _ _ _ _ h
      refine ⟨.nx, st, ?_, h4⟩
      rw [runC]
      cases drw with
      | false => simp only [runRegion, Bool.false_eq_true, if_false, h3]
      | true =>
        rw [runRegion_any (by simpa using h1), h3]
    · rename_i h1
      have hdrw : drw = true := by cases drw with
        | true => rfl
        | false => simp at h1
      obtain ⟨ss, st, h3, h4⟩ := opsQ_some _ _ _ _ _ _ h
      obtain ⟨h5, h6⟩ := okK_some h4
      refine ⟨.nx, st, ?_, h6⟩
      have hok : orderOk ops.toList ss = true := by
        refine orderOk_Q (runOpsS_foot _ _ _ _ h3) (by simp) (fun i q s hq hs hqt => ?_) h5
        simp only [List.reverse_nil, List.nil_append, List.getElem?_map, hs, Option.map_some, Option.some.injEq] at hq
        rw [← hq] at hqt
        exact List.isEmpty_iff.1 hqt
      rw [runC, hdrw]
      simp only [runRegion, if_true, h3, hok]
  | seq a b iha ihb =>
    intro env obs k r h
    simp only [codeK] at h
    obtain ⟨e, st, h1, h2⟩ := iha _ _ _ _ h
    cases e with
    | nx =>
      obtain ⟨e2, st2, h3, h4⟩ := ihb _ _ _ _ h2
      exact ⟨e2, st2, by rw [runC, h1]; exact h3, h4⟩
    | ex id => exact ⟨_, _, by rw [runC, h1], h2⟩
    | rt => exact ⟨_, _, by rw [runC, h1], h2⟩
  | cond c a b iha ihb =>
    intro env obs k r h
    simp only [codeK] at h
    split at h
    · rename_i t ht
      rw [← evAV_opA] at ht
      have hr : ∀ t, (⟨rebL c t env, obs⟩ : St) = rebC c t ⟨env, obs⟩ := by intro t; cases c <;> rfl
      rw [iteK_eq] at h
      cases t with
      | true =>
        obtain ⟨e, st, h1, h2⟩ := iha _ _ _ _ h
        exact ⟨e, st, by rw [runC, ht]; simp only [if_true]; rw [← hr]; exact h1, h2⟩
      | false =>
        obtain ⟨e, st, h1, h2⟩ := ihb _ _ _ _ h
        exact ⟨e, st, by rw [runC, ht]; simp only [Bool.false_eq_true, if_false]; rw [← hr]; exact h1, h2⟩
    · cases h
  | block id a iha =>
    intro env obs k r h
    simp only [codeK] at h
    obtain ⟨e, st, h1, h2⟩ := iha _ _ _ _ h
    cases e with
    | nx => exact ⟨_, _, by rw [runC, h1], h2⟩
    | rt => exact ⟨_, _, by rw [runC, h1], h2⟩
    | ex id' =>
      simp only at h2
      rw [iteK_eq] at h2
      split at h2
      · rename_i hb
        have hb : id' = id := Nat.eq_of_beq_eq_true hb
        exact ⟨_, _, by rw [runC, h1]; simp only [hb, if_true], h2⟩
      · rename_i hb
        have hb : ¬ id' = id := fun e => hb (by rw [e]; exact Nat.beq_refl id)
        exact ⟨_, _, by rw [runC, h1]; simp only [hb, if_false], h2⟩
  | loop a iha =>
    intro env obs k r h
    simp only [codeK] at h
    unfold loopK at h
    split at h
    · rename_i e st hl
      exact ⟨e, st, by rw [runC]; exact hl, h⟩
    · cases h
  | _ => intro env obs k r h; simp [codeK] at h

theorem EV_k {P : Program} {f : FuncId} {fn : Func} {c : Code} {args : List AV} {outs : List Ob} {r : AV × List Ob} (hl : cfg.lib f = none) (hf : P.funcs[f]? = some fn) (hb : fn.body = some c) (hn : Nat.ble args.length fn.ntmps = true)
    (hname : (fn.name == "runtime.NumGoroutine") = false)
    (h : codeK cfg f fn.ntmps (EV P cfg) LOOP c (initSt args outs).env (initSt args outs).obs (fun e env obs => match e with
      | .ex _ => none
      | _ => finK cfg f fn outs.length env obs) = some r) : EV P cfg f args outs = some r := by
  obtain ⟨e, st, h1, h2⟩ := codeK_some _ _ _ _ _ h
  refine EV_of hl hf hb (Nat.le_of_ble_eq_true hn) hname ⟨e, st, h1, ?_, ?_⟩
  · cases e with
    | nx => exact .inl rfl
    | rt => exact .inr rfl
    | ex id => cases h2
  · cases e with
    | nx => exact finK_some h2
    | rt => exact finK_some h2
    | ex id => cases h2
end

end Go.Sim
