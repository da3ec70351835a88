/- The abstract machine: what an operation, a code, a function does to abstract values. -/
import Derived.Test.YtkbeimibpeofbaaGreatSimR
namespace Go.Sim

def LibF := List AV → List Ob → Option (AV × List Ob)

structure Cfg where
  tab : Tab
  /-- functions whose contracts are shown by hand -/
  lib : FuncId → Option LibF
  /-- what may be written is passed as an object -/
  br : FuncId → Bool
  /-- results are closed -/
  cl : FuncId → Bool
  /-- the slice that this function makes in this slot will be written -/
  wr : FuncId → Nat → Bool
  /-- what is kept at a loop's head -/
  lv : FuncId → Nat → List Nat

def ltI (a b : Int) : Bool := decide (a < b)
def leI (a b : Int) : Bool := decide (a ≤ b)
def eqI (a b : Int) : Bool := decide (a = b)
theorem ltI_eq (a b : Int) : ltI a b = decide (a < b) := rfl
theorem leI_eq (a b : Int) : leI a b = decide (a ≤ b) := rfl
theorem eqI_eq (a b : Int) : eqI a b = decide (a = b) := rfl
attribute [irreducible] ltI leI eqI

def binF (tb : Tab) (t : TypeId) : BinOp → AV → AV → Option AV
  | .add, .int k a, .int j b => if k = j then some (.int k (k.wrap (a + b))) else none
  | .sub, .int k a, .int j b => if k = j then some (.int k (k.wrap (a - b))) else none
  | .mul, .int k a, .int j b => if k = j then some (.int k (k.wrap (a * b))) else none
  | .quo, .int k a, .int j b => if k = j ∧ b ≠ 0 then some (.int k (k.wrap (a.tdiv b))) else none
  | .rem, .int k a, .int j b => if k = j ∧ b ≠ 0 then some (.int k (a.tmod b)) else none
  | .and, .int k a, .int j b => if k = j then some (.int k (k.wrap (BitVec.ofInt k.bits a &&& BitVec.ofInt k.bits b).toNat)) else none
  | .or, .int k a, .int j b => if k = j then some (.int k (k.wrap (BitVec.ofInt k.bits a ||| BitVec.ofInt k.bits b).toNat)) else none
  | .xor, .int k a, .int j b => if k = j then some (.int k (k.wrap (BitVec.ofInt k.bits a ^^^ BitVec.ofInt k.bits b).toNat)) else none
  | .shl, .int k a, .int _ b => if 0 ≤ b then some (.int k (k.wrap (a * 2 ^ (min b.toNat k.bits)))) else none
  | .shr, .int k a, .int _ b => if 0 ≤ b then some (.int k (a.fdiv (2 ^ (min b.toNat k.bits)))) else none
  | .eql, .int k a, .int j b => if k = j then some (.bool (eqI a b)) else none
  | .neq, .int k a, .int j b => if k = j then some (.bool (!eqI a b)) else none
  | .lss, .int k a, .int j b => if k = j then some (.bool (ltI a b)) else none
  | .leq, .int k a, .int j b => if k = j then some (.bool (leI a b)) else none
  | .gtr, .int k a, .int j b => if k = j then some (.bool (ltI b a)) else none
  | .geq, .int k a, .int j b => if k = j then some (.bool (leI b a)) else none
  | .add, .str a, .str b => if a.size + b.size ≤ 9223372036854775807 then some (.str (a ++ b)) else none
  | .eql, .str a, .str b => some (.bool (decide (a = b)))
  | .neq, .str a, .str b => some (.bool (!decide (a = b)))
  | .eql, .bool a, .bool b => match look tb t with
    | some ti => match ti.k with
      | .bool => some (.bool (a == b))
      | _ => none
    | none => none
  | .eql, .agg xs, .agg ys => match look tb t with
    | some ti => if (ti.eqs && kindsA ti.zero xs && kindsA ti.zero ys) = true then some (.bool (samesA xs ys)) else none
    | none => none
  | .neq, .bool a, .bool b => match look tb t with
    | some ti => match ti.k with
      | .bool => some (.bool (!(a == b)))
      | _ => none
    | none => none
  | _, _, _ => none

/-! ### What is frozen -/
def frzS (obs : Ref → Option Ob) : AV → List Ref
  | .own r _ => match obs r with
    | some (.arr _ _ _ true) => [r]
    | _ => []
  | _ => []
def freezeO : Ob → Ob
  | .arr e sz rows _ => .arr e sz rows false
  | o => o
def obsZ (obs : Ref → Option Ob) (Z : List Ref) (r : Ref) : Option Ob := if r ∈ Z then (obs r).map freezeO else obs r
def Step.freeze (obs : Ref → Option Ob) (Z : List Ref) (s : Step) : Step :=
  match Z with
  | [] => s
  | Z => ⟨s.need, Z.filterMap (fun r => (obs r).map fun o => (r, o)) ++ s.R.filter (fun p => decide (p.1 ∉ Z)), s.Nw, s.v, s.U ++ Z.filterMap (fun r => (obs r).map fun o => (r, freezeO o))⟩

/-! ### What is reached -/
def refsS : AV → List Ref
  | .own r _ => [r]
  | .ptr r _ => [r]
  | .eptr r _ _ _ => [r]
  | .clo _ caps => caps
  | _ => []
def refsV : AV → List Ref
  | .agg cells => cells.flatMap refsS
  | .tup vs => vs.flatMap fun x => match x with
    | .agg cells => cells.flatMap refsS
    | y => refsS y
  | x => refsS x
def refsO : Ob → List Ref
  | .box cells => cells.flatMap refsS
  | .arr _ _ _ _ => []
def reach (obs : Ref → Option Ob) : Nat → List Ref → List Ref → List Ref
  | 0, _, acc => acc
  | _, [], acc => acc
  | k + 1, r :: rs, acc => if r ∈ acc then reach obs k rs acc else match obs r with
    | some o => reach obs k (refsO o ++ rs) (acc ++ [r])
    | none => reach obs k rs acc

def argRefs (br : Bool) (x : AV) : List Ref :=
  if br then refsV x else match x with
    | .own _ _ => []
    | .agg cells => cells.flatMap fun y => match y with
      | .own _ _ => []
      | z => refsS z
    | y => refsV y

def rowLens (sz : Nat) (rows : List (List AV)) : Bool := rows.all fun row => row.length == sz

def clB (obs : Ref → Option Ob) : AV → Bool
  | .own r n => match obs r with
    | some (.arr _ _ rows wr) => rows.length == n && !wr
    | _ => false
  | .nils => true
  | .bool _ => true
  | .int _ _ => true
  | .str _ => true
  | .sl _ => true
  | _ => false

def rowsB (obs : Ref → Option Ob) : AV → Bool
  | .sl _ => true
  | .nils => true
  | .own r n => match obs r with
    | some (.arr _ _ rows _) => rows.length == n
    | _ => false
  | _ => false

def argB1 (obs : Ref → Option Ob) (br sm : Bool) : AV → Bool
  | .own r n => br || match obs r with
    | some (.arr _ _ rows wr) => rows.length == n && (sm || !wr)
    | _ => false
  | _ => true
def argB (obs : Ref → Option Ob) (br sm : Bool) : AV → Bool
  | .agg cells => cells.all (argB1 obs br sm)
  | .tup _ => false
  | x => argB1 obs br sm x

def cellsV : AV → List AV
  | .agg cells => cells
  | x => [x]

def fillB (place : Nat → Option (Nat × Nat)) (len : Nat) : List (Nat × List AV) → Bool
  | [] => true
  | (i, xs) :: rest => (match place i with
    | some (off, size) => xs.length == size && decide (off + size ≤ len)
    | none => false) && fillB place len rest

def seqB : Nat → List (Nat × List AV) → Bool
  | _, [] => true
  | k, (i, _) :: rest => i == k && seqB (k + 1) rest

def placeOf (tb : Tab) : TK → Option (Nat → Option (Nat × Nat))
  | .struct fs => match fs.mapM (fun p => (look tb p.2).map (·.size)) with
    | some sizes => some fun i => ((fs.map (·.1)).zip sizes)[i]?
    | none => none
  | .array _ e => match look tb e with
    | some eti => some fun i => some (i * eti.size, eti.size)
    | none => none
  | _ => none

def capRefs (env : Nat → AV) : List Operand → Option (List Ref)
  | [] => some []
  | x :: xs => match evAV env x with
    | .ptr r 0 => (capRefs env xs).map (r :: ·)
    | _ => none

/-- A bound of a slice: none is d. -/
def bnd (env : Nat → AV) (d : Nat) : Option Operand → Option (Nat × List (Operand × AV))
  | none => some (d, [])
  | some y => match evAV env y with
    | .int k i => if 0 ≤ i then some (i.toNat, [(y, .int k i)]) else none
    | _ => none

def elemT (tb : Tab) (t : TypeId) : Option (TypeId × TI) :=
  match look tb t with
  | some ti => match ti.k with
    | .slice e => match look tb e with
      | some eti => if 0 < eti.size then some (e, eti) else none
      | none => none
    | _ => none
  | none => none

def arrT (tb : Tab) (t : TypeId) : Option (Nat × TI) :=
  match look tb t with
  | some ti => match ti.k with
    | .array m e => match look tb e with
      | some eti => if 0 < eti.size then some (m, eti) else none
      | none => none
    | _ => none
  | none => none

def isStrT (tb : Tab) (t : TypeId) : Bool :=
  match look tb t with
  | some ti => match ti.k with
    | .str => true
    | _ => false
  | none => false

def isIntT (tb : Tab) (t : TypeId) : Option IntKind :=
  match look tb t with
  | some ti => match ti.k with
    | .int k => some k
    | _ => none
  | none => none

def fieldT (tb : Tab) (t : TypeId) (i : Nat) : Option (Nat × TI) :=
  match look tb t with
  | some ti => match ti.k with
    | .struct fs => match fs[i]? with
      | some (off, ft) => match look tb ft with
        | some fti => if 0 < fti.size then some (off, fti) else none
        | none => none
      | none => none
    | _ => none
  | none => none

def when (b : Bool) (s : Step) : Option Step := if b then some s else none

section
variable (cfg : Cfg) (fi : FuncId) (env : Nat → AV) (obs : Ref → Option Ob)

def loadS (ti : TI) (x : Operand) : Option Step :=
  match evAV env x with
  | .rp cells off => when (decide (off + ti.size ≤ cells.length)) ⟨[(x, .rp cells off)], [], [], segV ti cells off, []⟩
  | .ptr r off => match obs r with
    | some (.box cells) => when (decide (off + ti.size ≤ cells.length)) ⟨[(x, .ptr r off)], [(r, .box cells)], [], segV ti cells off, []⟩
    | _ => none
  | .eptr r n i off => match obs r with
    | some (.arr e sz rows wr) => match rows[i]? with
      | some row => when (decide (rows.length = n) && decide (off + ti.size ≤ row.length)) ⟨[(x, .eptr r n i off)], [(r, .arr e sz rows wr)], [], segV ti row off, []⟩
      | none => none
    | _ => none
  | _ => none

def storeS (ti : TI) (x y : Operand) : Option Step :=
  match cellsA (evAV env y) with
  | none => none
  | some xs => match evAV env x with
    | .ptr r off => match obs r with
      | some (.box cells) => when (xs.length == ti.size && decide (off + xs.length ≤ cells.length)) ⟨[(x, .ptr r off), (y, evAV env y)], [(r, .box cells)], [], .junk, [(r, .box (splice cells off xs))]⟩
      | _ => none
    | .eptr r n i off => match obs r with
      | some (.arr e sz rows true) => match rows[i]? with
        | some row => when (xs.length == ti.size && decide (off + xs.length ≤ row.length) && decide (rows.length = n) && xs.all (clB (obsZ obs (xs.flatMap (frzS obs)))) && decide (r ∉ xs.flatMap (frzS obs)))
          (Step.freeze obs (xs.flatMap (frzS obs)) ⟨[(x, .eptr r n i off), (y, evAV env y)], (r, .arr e sz rows true) :: xs.flatMap (refs1 (obsZ obs (xs.flatMap (frzS obs)))), [], .junk,
            [(r, .arr e sz (rows.set i (splice row off (xs.map (clS (obsZ obs (xs.flatMap (frzS obs))))))) true)]⟩)
        | none => none
      | _ => none
    | _ => none

def fieldS (off : Nat) (x : Operand) : Option Step :=
  match evAV env x with
  | .ptr r o' => match obs r with
    | some (.box cells) => when (decide (o' + off ≤ cells.length)) ⟨[(x, .ptr r o')], [(r, .box cells)], [], .ptr r (o' + off), []⟩
    | _ => none
  | .rp cells o' => some ⟨[(x, .rp cells o')], [], [], .rp cells (o' + off), []⟩
  | .eptr r m j o' => match obs r with
    | some (.arr e sz rows wr) => when (decide (rows.length = m)) ⟨[(x, .eptr r m j o')], [(r, .arr e sz rows wr)], [], .eptr r m j (o' + off), []⟩
    | _ => none
  | _ => none

def indexS (eti : TI) (x y : Operand) : Option Step :=
  match evAV env y with
  | .int k i => match evAV env x with
    | .sl rows => match rows[i.toNat]? with
      | some row => when (decide (0 ≤ i) && row.length == eti.size) ⟨[(x, .sl rows), (y, .int k i)], [], [], .rp row 0, []⟩
      | none => none
    | .own r m => match obs r with
      | some (.arr e sz rows false) => match rows[i.toNat]? with
        | some row => when (decide (0 ≤ i) && row.length == eti.size && decide (rows.length = m)) ⟨[(x, .own r m), (y, .int k i)], [(r, .arr e sz rows false)], [], .rp row 0, []⟩
        | none => none
      | some (.arr e sz rows true) => when (decide (0 ≤ i) && decide (i < m) && decide (rows.length = m) && sz == eti.size)
          ⟨[(x, .own r m), (y, .int k i)], [(r, .arr e sz rows true)], [], .eptr r m i.toNat 0, []⟩
      | _ => none
    | _ => none
  | _ => none

/-- An element of an array variable. -/
def indexArrS (m : Nat) (eti : TI) (x y : Operand) : Option Step :=
  match evAV env y with
  | .int k i => match evAV env x with
    | .ptr r o' => match obs r with
      | some (.box cells) => when (decide (0 ≤ i) && decide (i < m) && decide (o' + i.toNat * eti.size ≤ cells.length)) ⟨[(x, .ptr r o'), (y, .int k i)], [(r, .box cells)], [], .ptr r (o' + i.toNat * eti.size), []⟩
      | _ => none
    | .rp cells o' => when (decide (0 ≤ i) && decide (i < m)) ⟨[(x, .rp cells o'), (y, .int k i)], [], [], .rp cells (o' + i.toNat * eti.size), []⟩
    | _ => none
  | _ => none

def buildSliceS (e : TypeId) (eti : TI) (r : Ref) (wr : Bool) (len : Nat) (parts : List (Nat × Operand)) : Option Step :=
  match partsA env parts with
  | none => none
  | some ps =>
    let Z := ps.flatMap fun p => p.2.flatMap (frzS obs)
    let ob := obsZ obs Z
    when ((obs r).isNone && len == parts.length && decide (len * eti.size ≤ 16777216) && seqB 0 ps && ps.all (fun p => p.2.length == eti.size) && ps.all (fun p => p.2.all (clB ob)))
      (Step.freeze obs Z ⟨parts.map (fun p => (p.2, evAV env p.2)), ps.flatMap (fun p => p.2.flatMap (refs1 ob)), [r], .own r len, [(r, .arr e eti.size (ps.map fun p => p.2.map (clS ob)) wr)]⟩)

def sliceS (t : TypeId) (x : Operand) (lo hi : Option Operand) : Option Step :=
  match evAV env x with
  | .str s => match bnd env 0 lo, bnd env s.size hi with
    | some (l, n1), some (h, n2) => when (isStrT cfg.tab t && decide (l ≤ h) && decide (h ≤ s.size)) ⟨(x, .str s) :: (n1 ++ n2), [], [], .str (s.extract l h), []⟩
    | _, _ => none
  | vx => match elemT cfg.tab t with
    | none => none
    | some (_, eti) =>
      let Z := frzS obs vx
      let ob := obsZ obs Z
      match clS ob vx with
      | .sl rows => match bnd env 0 lo, bnd env rows.length hi with
        | some (l, n1), some (h, n2) => when (clB ob vx && rowLens eti.size rows && decide (l ≤ h) && decide (h ≤ rows.length))
            (Step.freeze obs Z ⟨(x, vx) :: (n1 ++ n2), refs1 ob vx, [], .sl ((rows.take h).drop l), []⟩)
        | _, _ => none
      | _ => none

def appendS (e : TypeId) (eti : TI) (k : Ref) (wr : Bool) (x y : Operand) : Option Step :=
  let vy := evAV env y
  let news := rowsOf obs vy
  match evAV env x with
  | .nils => when ((obs k).isNone && rowsB obs vy && rowLens eti.size news && decide (news.length * eti.bytes ≤ 140737488355328) && decide (news.length ≤ 9223372036854775807))
      ⟨[(x, .nils), (y, vy)], refs1 obs vy, [k], .own k news.length, [(k, .arr e eti.size news wr)]⟩
  | .own r m => match obs r with
    | some (.arr e' sz rows wr') => when (e' == e && sz == eti.size && decide (rows.length = m) && rowsB obs vy && rowLens eti.size news && decide ((rows.length + news.length) * eti.bytes ≤ 140737488355328)
          && decide (rows.length + news.length ≤ 9223372036854775807))
        ⟨[(x, .own r m), (y, vy)], (r, .arr e' sz rows wr') :: refs1 obs vy, [], .own r (rows ++ news).length, [(r, .arr e eti.size (rows ++ news) wr')]⟩
    | _ => none
  | _ => none

/-- A call by value: the steps that its answer makes. -/
def callG' (call : FuncId → List AV → List Ob → Option (AV × List Ob)) (d : Nat) (fo : Operand) (f : FuncId) (caps : List Ref) (xs : List Operand) : Option Step :=
  let vs := xs.map (evAV env)
  let br := cfg.br f
  let G := reach obs 64 (vs.flatMap (argRefs br) ++ caps) []
  let Z := if br then [] else vs.flatMap fun v => (cellsV v).flatMap (frzS obs)
  let ob := obsZ obs Z
  match G.mapM fun r => (ob r).map (renO (sig G)) with
  | none => none
  | some outs =>
    let args := vs.map (argA ob G br) ++ (capsA caps).map (renS (sig G))
    match call f args outs with
    | none => none
    | some (res, outs') =>
      if G.isEmpty && caps.isEmpty && !br && outs'.isEmpty && scalarV res then
        when (vs.all (argB obs false true)) ⟨(fo, .clo f []) :: xs.map (fun x => (x, evAV env x)), vs.flatMap (refsA obs), [], res, []⟩
      else
        let E := outs'.length - G.length
        when (decide (G.length ≤ outs'.length) && vs.all (argB ob br false) && (List.range E).all (fun k => (obs (.loc d k)).isNone) && G.all (fun r => decide (r ∉ Z)))
          (Step.freeze obs Z ⟨(fo, .clo f caps) :: xs.map (fun x => (x, evAV env x)), vs.flatMap (refsA ob) ++ G.filterMap (fun r => (ob r).map fun o => (r, o)), (List.range E).map (Ref.loc d), renV (tau G d E) res, backU G d E outs'⟩)

def builtinS (b : Builtin) (d : Nat) (args : List Operand) (types : List TypeId) : Option Step :=
  match b, args, types with
  | .len, [x], [t] => match evAV env x with
    | .str s => when (isStrT cfg.tab t) ⟨[(x, .str s)], [], [], .int .i64 s.size, []⟩
    | v => match elemT cfg.tab t with
      | some _ => when (rowsB obs v) ⟨[(x, v)], refs1 obs v, [], .int .i64 (rowsOf obs v).length, []⟩
      | none => none
  | .max, [x, y], _ => match evAV env x, evAV env y with
    | .int k p, .int j q => some ⟨[(x, .int k p), (y, .int j q)], [], [], .int k (if q > p then q else p), []⟩
    | _, _ => none
  | .min, [x, y], _ => match evAV env x, evAV env y with
    | .int k p, .int j q => some ⟨[(x, .int k p), (y, .int j q)], [], [], .int k (if q < p then q else p), []⟩
    | _, _ => none
  | .append, [x, y], [t, t'] => match elemT cfg.tab t with
    | some (e, eti) => if t = t' then appendS env obs e eti (.loc d 0) (cfg.wr fi d) x y else none
    | none => none
  | _, _, _ => none

def stepOp (call : FuncId → List AV → List Ob → Option (AV × List Ob)) (o : Oper) : Option Step :=
  let e := evAV env
  let d := o.dst.getD 99999
  match o.op with
  | .move x => some ⟨[(x, e x)], [], [], e x, []⟩
  | .assign x => some ⟨[(x, e x)], [], [], e x, []⟩
  | .pick c x y => match e c with
    | .bool b => some ⟨[(c, .bool b), ((if b then x else y), e (if b then x else y))], [], [], e (if b then x else y), []⟩
    | _ => none
  | .binOp op t x y _ => (binF cfg.tab t op (e x) (e y)).map fun v => ⟨[(x, e x), (y, e y)], [], [], v, []⟩
  | .unOp .not _ x => match e x with
    | .bool b => some ⟨[(x, .bool b)], [], [], .bool (!b), []⟩
    | _ => none
  | .unOp .neg _ x => match e x with
    | .int k i => some ⟨[(x, .int k i)], [], [], .int k (k.wrap (0 - i)), []⟩
    | _ => none
  | .convert src dst x => match e x, look cfg.tab src, isIntT cfg.tab dst with
    | .int k i, some _, some j => some ⟨[(x, .int k i)], [], [], .int j (j.wrap i), []⟩
    | _, _, _ => none
  | .extract x i => match e x with
    | .tup vs => match vs[i]? with
      | some v => some ⟨[(x, .tup vs)], [], [], v, []⟩
      | none => none
    | _ => none
  | .nilCheck x => match e x with
    | .ptr r off => some ⟨[(x, .ptr r off)], [], [], .ptr r off, []⟩
    | .rp cells off => some ⟨[(x, .rp cells off)], [], [], .rp cells off, []⟩
    | .clo f caps => some ⟨[(x, .clo f caps)], [], [], .clo f caps, []⟩
    | _ => none
  | .makeFunc (.func f) first captured => match capRefs env captured.toList with
    | some rs => when (first.size == 0) ⟨captured.toList.map (fun x => (x, e x)), [], [], .clo f rs, []⟩
    | none => none
  | .alloc t => match look cfg.tab t with
    | some ti => when (obs (.loc d 0)).isNone ⟨[], [], [.loc d 0], .ptr (.loc d 0) 0, [(.loc d 0, .box ti.zero)]⟩
    | none => none
  | .box _ x => match cellsA (e x) with
    | some xs => when (obs (.loc d 0)).isNone ⟨[(x, e x)], [], [.loc d 0], .ptr (.loc d 0) 0, [(.loc d 0, .box xs)]⟩
    | none => none
  | .load t x => match look cfg.tab t with
    | some ti => if 0 < ti.size then loadS env obs ti x else none
    | none => none
  | .store t x y => match look cfg.tab t with
    | some ti => if o.dst.isNone then storeS env obs ti x y else none
    | none => none
  | .fieldAddr t x i => match fieldT cfg.tab t i with
    | some (off, _) => fieldS env obs off x
    | none => none
  | .field t x i => match fieldT cfg.tab t i, e x with
    | some (off, fti), .agg cells => when (decide (off + fti.size ≤ cells.length)) ⟨[(x, .agg cells)], [], [], segV fti cells off, []⟩
    | _, _ => none
  | .indexAddr t x y => match elemT cfg.tab t with
    | some (_, eti) => indexS env obs eti x y
    | none => match arrT cfg.tab t with
      | some (m, eti) => indexArrS env obs m eti x y
      | none => none
  | .index t x y => match e x, e y with
    | .str s, .int k i => when (isStrT cfg.tab t && decide (0 ≤ i) && decide (i < s.size)) ⟨[(x, .str s), (y, .int k i)], [], [], .int .u8 (bget s i.toNat), []⟩
    | _, _ => none
  | .build t parts => match look cfg.tab t with
    | some ti => match placeOf cfg.tab ti.k, partsA env parts.toList with
      | some place, some ps => when (fillB place ti.size ps) ⟨parts.toList.map (fun p => (p.2, e p.2)), [], [], .agg (fillA place ti.zero ps), []⟩
      | _, _ => none
    | none => none
  | .buildSlice t len parts => match elemT cfg.tab t with
    | some (el, eti) => buildSliceS env obs el eti (.loc d 0) (cfg.wr fi d) len parts.toList
    | none => none
  | .makeSlice t x y => match elemT cfg.tab t, e x, e y with
    | some (el, eti), .int kx l, .int ky c => when ((obs (.loc d 0)).isNone && decide (0 ≤ l) && decide (l ≤ c) && decide ((eti.bytes : Int) * c ≤ 281474976710656) && decide (c ≤ 9223372036854775807) && eti.zero.all (clB fun _ => none))
        ⟨[(x, .int kx l), (y, .int ky c)], [], [.loc d 0], .own (.loc d 0) l.toNat, [(.loc d 0, .arr el eti.size (List.replicate l.toNat (eti.zero.map (clS fun _ => none))) (cfg.wr fi d))]⟩
    | _, _, _ => none
  | .slice t x lo hi none => sliceS cfg env obs t x lo hi
  | .call c => match c.callee with
    | .builtin b => builtinS cfg fi env obs b d c.args.toList c.argTypes.toList
    | .value fo => match e fo with
      | .clo f caps => callG' cfg env obs call d fo f caps c.args.toList
      | _ => none
    | _ => none
  | _ => none

end

/-! ### Code -/
structure St where
  env : List (Nat × AV)
  obs : List (Ref × Ob)

def envF (l : List (Nat × AV)) (t : Nat) : AV := (look l t).getD .junk
def putO (r : Ref) (o : Ob) : List (Ref × Ob) → List (Ref × Ob)
  | [] => [(r, o)]
  | (q, p) :: rest => if q = r then (q, o) :: rest else (q, p) :: putO r o rest
def putAll : List (Ref × Ob) → List (Ref × Ob) → List (Ref × Ob)
  | [], l => l
  | (r, o) :: U, l => putO r o (putAll U l)
def putE (d : Option Nat) (v : AV) (l : List (Nat × AV)) : List (Nat × AV) :=
  match d with
  | some d => (d, v) :: l
  | none => l

inductive Ex where
  | nx
  | ex (id : Nat)
  | rt

def yieldA (ops : Array Oper) (env : Nat → AV) (j : Nat) : Option (Nat × AV × Option Bool) :=
  match ops[j]? with
  | some oj => match oj.dst with
    | some d => match env d with
      | .bool b => some (d, .bool b, some b)
      | .tup [] => some (d, .tup [], none)
      | _ => none
    | none => none
  | none => none

section
variable (cfg : Cfg) (fi n : Nat) (call : FuncId → List AV → List Ob → Option (AV × List Ob))

def dstOk (o : Oper) : Bool :=
  match o.dst with
  | some d => decide (d < n)
  | none => true

def stepG (ops : Array Oper) (o : Oper) (st : St) : Option Step :=
  if dstOk n o then
    match o.guard with
    | none => stepOp cfg fi (envF st.env) (lookR st.obs) call o
    | some (j, b) => match yieldA ops (envF st.env) j with
      | none => none
      | some (d, y, b') => if d < n then
          (if b' = some b then (stepOp cfg fi (envF st.env) (lookR st.obs) call o).map fun s => { s with need := (.tmp d, y) :: s.need }
          else some ⟨[(.tmp d, y)], [], [], .tup [], []⟩) else none
  else none

/-- What the guard's turn tells of the slot that it reads. -/
def rebG (ops : Array Oper) (o : Oper) (env : List (Nat × AV)) : List (Nat × AV) :=
  match o.guard with
  | none => env
  | some (j, b) => match yieldA ops (envF env) j with
    | some (d, _, some b') => if b' = b then (d, .bool b) :: env else (d, .bool (!b)) :: env
    | _ => env

def St.step (ops : Array Oper) (st : St) (o : Oper) (s : Step) : St := ⟨putE o.dst s.v (rebG ops o st.env), putAll s.U st.obs⟩

/-- What a branch tells of the slot that it reads. -/
def rebC (c : Operand) (t : Bool) (st : St) : St :=
  match c with
  | .tmp d => ⟨(d, .bool t) :: st.env, st.obs⟩
  | _ => st

def runOps (ops : Array Oper) : List Oper → St → Option St
  | [], st => some st
  | o :: os, st => match stepG cfg fi n call ops o st with
    | some s => runOps ops os (st.step ops o s)
    | none => none

/-- The same, with its steps. -/
def runOpsS (ops : Array Oper) : List Oper → St → Option (List Step × St)
  | [], st => some ([], st)
  | o :: os, st => match stepG cfg fi n call ops o st with
    | some s => match runOpsS ops os (st.step ops o s) with
      | some (ss, st') => some (s :: ss, st')
      | none => none
    | none => none

def runRegion (ops : Array Oper) (drw : Bool) (st : St) : Option St :=
  if drw then match runOpsS cfg fi n call ops ops.toList st with
    | some (ss, st') => if orderOk ops.toList ss then some st' else none
    | none => none
  else runOps cfg fi n call ops ops.toList st

def loopId : Code → Nat
  | .region id _ _ => id
  | .seq a _ => loopId a
  | .block _ c => loopId c
  | .loop c => loopId c
  | _ => 0

/-- A state's kept part, its own objects with new names. -/
def dedupR : List Ref → List Ref
  | [] => []
  | r :: rs => r :: (dedupR rs).filter (fun q => decide (q ≠ r))
def isLoc : Ref → Bool
  | .loc _ _ => true
  | .out _ => false
def assocR (l : List (Ref × Ref)) (r : Ref) : Option Ref :=
  match l with
  | [] => none
  | (a, b) :: rest => if a = r then some b else assocR rest r

def outRefs (l : List (Ref × Ob)) : List Ref := dedupR ((l.map (·.1)).filter fun r => !isLoc r)

def renames (outs : List Ref) (locs : List Ref) (name : Nat → Ref) : List (Ref × Ref) := outs.map (fun r => (r, r)) ++ locs.zipIdx.map fun p => (p.1, name p.2)
def pickO (l : List (Ref × Ob)) (K : List (Ref × Ref)) : List (Ref × Ob) := K.filterMap fun p => (lookR l p.1).map fun o => (p.2, renO (assocR K) o)

def St.norm (live : List Nat) (st : St) : St :=
  let vals := live.map fun t => (t, envF st.env t)
  let outs := outRefs st.obs
  let all := reach (lookR st.obs) 200 (vals.flatMap (fun p => refsV p.2) ++ outs.flatMap fun r => match lookR st.obs r with | some o => refsO o | none => []) []
  let K := renames outs (all.filter isLoc) (fun k => .loc 0 k)
  ⟨vals.map fun p => (p.1, renV (assocR K) p.2), pickO st.obs K⟩

def loopF (step : St → Option (Ex × St)) (norm : St → St) : Nat → St → Option (Ex × St)
  | 0, _ => none
  | k + 1, st => match step (norm st) with
    | some (.nx, st') => loopF step norm k st'
    | r => r

noncomputable def LOOP (step : St → Option (Ex × St)) (norm : St → St) (st : St) : Option (Ex × St) :=
  open Classical in if h : ∃ r k, loopF step norm k st = some r then some h.choose else none

/-- lp: how a loop's rounds are made. -/
def runC (lp : (St → Option (Ex × St)) → (St → St) → St → Option (Ex × St)) : Code → St → Option (Ex × St)
  | .skip, st => some (.nx, st)
  | .region _ ops drw, st => match runRegion cfg fi n call ops drw st with
    | some st' => some (.nx, st')
    | none => none
  | .seq a b, st => match runC lp a st with
    | some (.nx, st') => runC lp b st'
    | r => r
  | .cond c a b, st => match evAV (envF st.env) c with
    | .bool t => if t then runC lp a (rebC c true st) else runC lp b (rebC c false st)
    | _ => none
  | .block id c, st => match runC lp c st with
    | some (.ex id', st') => if id' = id then some (.nx, st') else some (.ex id', st')
    | r => r
  | .loop c, st => lp (runC lp c) (St.norm (cfg.lv fi (loopId c))) st
  | .exit id, st => some (.ex id, st)
  | .ret, st => some (.rt, st)
  | _, _ => none
end

/-! ### Functions -/
def resOne (tb : Tab) (st : St) : ResultVar → Option AV
  | .tmp t => some (envF st.env t)
  | .cell a t => match look tb t with
    | some ti => if 0 < ti.size then (match envF st.env a with
      | .ptr r off => match lookR st.obs r with
        | some (.box cells) => if off + ti.size ≤ cells.length then some (segV ti cells off) else none
        | _ => none
      | _ => none) else none
    | none => none

def closeS (obs : Ref → Option Ob) : AV → AV
  | .own r n => match obs r with
    | some (.arr _ _ rows _) => if rows.length = n then .sl rows else .own r n
    | _ => .own r n
  | .nils => .sl []
  | x => x
def closeA (obs : Ref → Option Ob) : AV → AV
  | .agg cells => .agg (cells.map (closeS obs))
  | x => closeS obs x

def isTup : AV → Bool
  | .tup _ => true
  | _ => false

def finish (cfg : Cfg) (f : FuncId) (fn : Func) (k : Nat) (st : St) : Option (AV × List Ob) :=
  match fn.results.toList.mapM (resOne cfg.tab st) with
  | none => none
  | some vs =>
    if vs.any isTup then none else
    let Z := if cfg.cl f then vs.flatMap fun v => (cellsV v).flatMap (frzS (lookR st.obs)) else []
    let ws := if cfg.cl f then vs.map (closeA (lookR st.obs)) else vs
    let ob := obsZ (lookR st.obs) Z
    let outs := (List.range k).map Ref.out
    let locs := (reach ob 200 (ws.flatMap refsV ++ outs.flatMap fun r => match ob r with | some o => refsO o | none => []) []).filter isLoc
    let K := renames outs locs (fun i => .out (k + i))
    match K.mapM fun p => (ob p.1).map (renO (assocR K)) with
    | none => none
    | some obs' => some (renV (assocR K) (match ws with | [w] => w | ws => .tup ws), obs')

def initSt (args : List AV) (outs : List Ob) : St := ⟨args.zipIdx.map fun p => (p.2, p.1), outs.zipIdx.map fun p => (.out p.2, p.1)⟩

def runF (P : Program) (cfg : Cfg) (lp : (St → Option (Ex × St)) → (St → St) → St → Option (Ex × St)) (call : FuncId → List AV → List Ob → Option (AV × List Ob)) (f : FuncId) (args : List AV) (outs : List Ob) : Option (AV × List Ob) :=
  match cfg.lib f with
  | some g => g args outs
  | none => match P.funcs[f]? with
    | none => none
    | some fn => match fn.body with
      | none => none
      | some c => if args.length ≤ fn.ntmps ∧ (fn.name == "runtime.NumGoroutine") = false then
          match runC cfg f fn.ntmps call lp c (initSt args outs) with
          | some (.nx, st) => finish cfg f fn outs.length st
          | some (.rt, st) => finish cfg f fn outs.length st
          | _ => none
        else none

/-- For trying: calls and rounds are counted. -/
def tryF (P : Program) (cfg : Cfg) : Nat → FuncId → List AV → List Ob → Option (AV × List Ob)
  | 0 => fun _ _ _ => none
  | k + 1 => runF P cfg (fun s nm st => loopF s nm 100000 st) (tryF P cfg k)

noncomputable def evF (P : Program) (cfg : Cfg) : Nat → FuncId → List AV → List Ob → Option (AV × List Ob)
  | 0 => fun _ _ _ => none
  | k + 1 => runF P cfg LOOP (evF P cfg k)

/-- What the abstract machine answers. -/
noncomputable def EV (P : Program) (cfg : Cfg) (f : FuncId) (args : List AV) (outs : List Ob) : Option (AV × List Ob) :=
  open Classical in if h : ∃ r N, ∀ k, N ≤ k → evF P cfg k f args outs = some r then some h.choose else none

end Go.Sim
