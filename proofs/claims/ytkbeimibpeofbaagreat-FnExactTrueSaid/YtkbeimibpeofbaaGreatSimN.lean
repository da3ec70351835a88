/- Slices made; parts of slices and texts; the small operations. -/
import Derived.Test.YtkbeimibpeofbaaGreatSimM
namespace Go.Sim

def bget (s : ByteArray) (i : Nat) : Int := ((s[i]?).map fun b => (b.toNat : Int)).getD 0

section
variable {P : Program} {n : Nat} {o : Oper} (hd : ∀ d, o.dst = some d → d < n)
include hd

theorem ls_makeSlice {t e : TypeId} {ti eti : TI} (hT : TIok P t ti) (hk : ti.k = .slice e) (hE : TIok P e eti) (h0 : 0 < eti.size) {x y : Operand} (ho : o.op = .makeSlice t x y) {kx ky : IntKind} {l c : Int}
    (hl : 0 ≤ l) (hlc : l ≤ c) (hb : (eti.bytes : Int) * c ≤ 281474976710656) (h63 : c ≤ 9223372036854775807) (hcl : allP (clOk fun _ => none) eti.zero) (r : Ref) (wr : Bool) :
    LStep P n o ⟨[(x, .int kx l), (y, .int ky c)], [], [r], .own r l.toNat, [(r, .arr e eti.size (List.replicate l.toNat (eti.zero.map (clS fun _ => none))) wr)]⟩ := by
  refine .val hd fun C env M a hR h1 _ h3 => ?_
  have hx := hR.ev x
  rw [h1 (x, .int kx l) (by simp)] at hx
  have hy := hR.ev y
  rw [h1 (y, .int ky c) (by simp)] at hy
  have hx := rep_int hx
  have hy := rep_int hy
  obtain ⟨d, hu, hf⟩ := hT.und
  rw [hk] at hf
  have : d = .slice e := hf
  subst this
  obtain ⟨info, z, d, g1, g2, g3, g4, _, _, hs, hzl, g9, _⟩ := hE
  have hrun := run_make (P := P) M.w t e info z hu g1 g2 kx ky l c hl hlc (by rw [g4]; exact hb) h63
  rw [g3] at hrun
  have hzlen : eti.zero.length = eti.size := by
    have := congrArg List.length hzl
    simpa [hs] using this.symm
  have hcn : c.toNat ≤ maxLen := by simp only [maxLen]; omega
  obtain ⟨m1, m2, m3⟩ := alloc_arr hR.mem (h3 r (.head _)) e eti.size (List.replicate l.toNat (eti.zero.map (clS fun _ => none))) wr (madeCells z.cells (c.toNat * eti.size)) c.toNat h0
    (fun row hr => by rw [(List.mem_replicate.1 hr).2]; simpa using hzlen) (by simp [madeCells]) (by simp; omega) hcn (fun i row j v hi hj => by
      rw [List.getElem?_replicate] at hi
      split at hi
      · rename_i hil
        have := Option.some.inj hi
        subst this
        simp only [List.getElem?_map, Option.map_eq_some_iff] at hj
        obtain ⟨y, hy, rfl⟩ := hj
        have hjl : j < eti.size := by rw [← hzlen]; exact (List.getElem?_eq_some_iff.1 hy).1
        have hlt := mul_lt_mul_row (j := j) (sz := eti.size) (show i < c.toNat by omega) hjl
        have hmod : (i * eti.size + j) % z.cells.size = j := by rw [hs, Nat.mul_comm, Nat.mul_add_mod]; exact Nat.mod_eq_of_lt hjl
        have hcell : (madeCells z.cells (c.toNat * eti.size)).getD (i * eti.size + j) undef = toV y := by
          have hz : z.cells.toList[j]? = some (toV y) := by rw [hzl]; simp [hy]
          rw [Array.getElem?_toList] at hz
          simp [madeCells, Array.getD_eq_getD_getElem?, hlt, hmod]
          rw [getElem!_def, hz]
        rw [hcell]
        have hym := List.mem_of_getElem? hy
        have hpz := List.all_eq_true.1 g9 y hym
        refine clS_rep hR.mem (obs := fun _ => none) (allP_mem hcl y hym) (fun p hp => ?_) (toV_rep hpz)
        cases y <;> simp [refs1] at hp
      · simp at hi)
  refine ⟨_, _, ?_, m1, m2, by simp [Mem.put, updAll_one], .of (.of (by simpa using m3))⟩
  simp [execOp, ho, hx, hy, hrun, Mem.put]

omit hd in
theorem rep_sl_cut {Pr : Prot} {w : World} {rows : List (List AV)} {A : Option Addr} {len cap : Nat} (h : RepC Pr w (.sl rows) (.slice A len cap)) {lo hi : Nat} (h1 : lo ≤ hi) (h2 : hi ≤ rows.length) {size : Nat}
    (hsz : ∀ row ∈ rows, row.length = size) : RepC Pr w (.sl ((rows.take hi).drop lo)) (.slice (if cap = lo then A else A.map (·.add (lo * size))) (hi - lo) (cap - lo)) := by
  cases h with
  | sl0 _ _ hc =>
    have : hi = 0 := by simpa using h2
    subst this
    have : lo = 0 := by omega
    subst this
    exact .sl0 _ _ (by omega)
  | sl _ b o' _ sz cv hn hcap hsz' hc hr =>
    by_cases he : cap = lo
    · have : hi - lo = 0 := by omega
      have hemp : (rows.take hi).drop lo = [] := by simp; omega
      rw [hemp, this]
      exact .sl0 _ _ (by omega)
    · rw [if_neg he]
      simp only [Option.map_some, addr_add]
      by_cases hr0 : rows = []
      · subst hr0
        simp at h2
        subst h2
        have : lo = 0 := by omega
        subst this
        simp
        exact .sl0 _ _ hcap
      · have hs : sz = size := by
          obtain ⟨row, rest, rfl⟩ := List.exists_cons_of_ne_nil hr0
          exact (hsz' row (.head _)).symm.trans (hsz row (.head _))
        subst hs
        have hl : ((rows.take hi).drop lo).length = hi - lo := by simp; omega
        rw [← hl]
        have hget : ∀ (i : Nat) row, ((rows.take hi).drop lo)[i]? = some row → rows[lo + i]? = some row := by
          intro i row h
          rw [List.getElem?_drop, List.getElem?_take] at h
          split at h
          · exact h
          · simp at h
        refine .sl _ b (o' + lo * sz) (cap - lo) sz (fun i j => cv (lo + i) j) (by omega) (by omega) (fun row h => ?_) (fun i row j x hi' hj => ?_) (fun i row j x hi' hj => hr _ _ _ _ (hget i row hi') hj)
        · exact hsz' row (List.mem_of_mem_take (List.mem_of_mem_drop h))
        · obtain ⟨p, c⟩ := hc _ _ _ _ (hget i row hi') hj
          have : o' + lo * sz + (i * sz + j) = o' + ((lo + i) * sz + j) := by rw [Nat.add_mul]; omega
          rw [this]
          exact ⟨p, c⟩

omit hd in
theorem run_slice_at {t e : TypeId} {ti eti : TI} (hT : TIok P t ti) (hk : ti.k = .slice e) (hE : TIok P e eti) (w : World) (A : Option Addr) (len cap : Nat) (lo hi : Option Value) (l h : Nat) (hlen : len ≤ cap)
    (hlo : (lo = none ∧ l = 0) ∨ ∃ k, lo = some (.int k l)) (hhi : (hi = none ∧ h = len) ∨ ∃ k, hi = some (.int k h)) (h1 : l ≤ h) (h2 : h ≤ len) :
    (Instr.sliceAt t (.slice A len cap) lo hi none).run P w = .ok (.slice (if cap = l then A else A.map (·.add (l * eti.size))) (h - l) (cap - l)) w := by
  obtain ⟨d, hu, hf⟩ := hT.und
  rw [hk] at hf
  have : d = .slice e := hf
  subst this
  have b1 : h ≤ cap := by omega
  have hb : (Instr.sliceBounds true len cap lo hi none).run P w = .ok (l, h, cap) w := by
    rcases hlo with ⟨rfl, rfl⟩ | ⟨k, rfl⟩ <;> rcases hhi with ⟨rfl, rfl⟩ | ⟨k', rfl⟩ <;>
      simp [Instr.sliceBounds, Instr.sliceBound, asIntOf, b1, h1]
  simp [Instr.sliceAt, Instr.slice, run_underlying hu, hb, hE.size]

theorem ls_slice_sl {t e : TypeId} {ti eti : TI} (hT : TIok P t ti) (hk : ti.k = .slice e) (hE : TIok P e eti) {x : Operand} {lo hi : Option Operand} (ho : o.op = .slice t x lo hi none) {vx : AV} (obs : Ref → Option Ob)
    {rows : List (List AV)} (hc : clOk obs vx) (hrows : clS obs vx = .sl rows) (hsz : ∀ row ∈ rows, row.length = eti.size) {l h : Nat} (need : List (Operand × AV)) (R : List (Ref × Ob)) (hx : (x, vx) ∈ need)
    (hR : ∀ p ∈ refs1 obs vx, p ∈ R) (hlo : (lo = none ∧ l = 0) ∨ ∃ y k, lo = some y ∧ (y, AV.int k l) ∈ need) (hhi : (hi = none ∧ h = rows.length) ∨ ∃ y k, hi = some y ∧ (y, AV.int k h) ∈ need)
    (h1 : l ≤ h) (h2 : h ≤ rows.length) : LStep P n o ⟨need, R, [], .sl ((rows.take h).drop l), []⟩ := by
  refine .pure hd fun C env M a hRl k1 k2 => ?_
  have hxv := hRl.ev x
  rw [k1 _ hx] at hxv
  have hs : RepS M vx (a.eval x) := by cases vx <;> first | exact hxv | exact hc.elim
  have hr := clS_rep hRl.mem hc (fun p hp => k2 p (hR p hp)) hs
  rw [hrows] at hr
  have hsl : ∃ A cap, a.eval x = .slice A rows.length cap ∧ rows.length ≤ cap := by
    generalize a.eval x = v at hr
    cases hr with
    | sl0 A cap _ => exact ⟨A, cap, rfl, Nat.zero_le _⟩
    | sl _ b o cap sz cv hn hcap hsz' hc hr => exact ⟨_, cap, rfl, hn⟩
  obtain ⟨A, cap, hv, hcap⟩ := hsl
  rw [hv] at hr
  refine ⟨_, ?_, .of (.of (rep_sl_cut hr h1 h2 hsz))⟩
  have := run_slice_at (P := P) hT hk hE M.w A rows.length cap (lo.map a.eval) (hi.map a.eval) l h hcap
    (by
      rcases hlo with ⟨rfl, rfl⟩ | ⟨y, k, rfl, hy⟩
      · exact .inl ⟨rfl, rfl⟩
      · have := hRl.ev y
        rw [k1 _ hy] at this
        exact .inr ⟨k, by simp [rep_int this]⟩)
    (by
      rcases hhi with ⟨rfl, rfl⟩ | ⟨y, k, rfl, hy⟩
      · exact .inl ⟨rfl, rfl⟩
      · have := hRl.ev y
        rw [k1 _ hy] at this
        exact .inr ⟨k, by simp [rep_int this]⟩) h1 h2
  simp [execOp, ho, hv, this]

theorem ls_slice_str {t : TypeId} {ti : TI} (hT : TIok P t ti) (hk : ti.k = .str) {x : Operand} {lo hi : Option Operand} (ho : o.op = .slice t x lo hi none) {s : ByteArray}
    {l h : Nat} (need : List (Operand × AV)) (hx : (x, AV.str s) ∈ need)
    (hlo : (lo = none ∧ l = 0) ∨ ∃ y k, lo = some y ∧ (y, AV.int k l) ∈ need) (hhi : (hi = none ∧ h = s.size) ∨ ∃ y k, hi = some y ∧ (y, AV.int k h) ∈ need)
    (h1 : l ≤ h) (h2 : h ≤ s.size) : LStep P n o ⟨need, [], [], .str (s.extract l h), []⟩ := by
  refine .pure hd fun C env M a hRl k1 _ => ?_
  have hxv := hRl.ev x
  rw [k1 _ hx] at hxv
  have hv := rep_str hxv
  obtain ⟨d, hu, hf⟩ := hT.und
  rw [hk] at hf
  have : d = .string := hf
  subst this
  refine ⟨.string (s.extract l h), ?_, .of (.of rfl)⟩
  have hb : (Instr.sliceBounds false s.size s.size (lo.map a.eval) (hi.map a.eval) none).run P M.w = .ok (l, h, s.size) M.w := by
    have e1 : ∀ y k, (y, AV.int k l) ∈ need → a.eval y = .int k l := fun y k hy => by have := hRl.ev y; rw [k1 _ hy] at this; exact rep_int this
    have e2 : ∀ y k, (y, AV.int k h) ∈ need → a.eval y = .int k h := fun y k hy => by have := hRl.ev y; rw [k1 _ hy] at this; exact rep_int this
    rcases hlo with ⟨rfl, rfl⟩ | ⟨y, k, rfl, hy⟩ <;> rcases hhi with ⟨rfl, rfl⟩ | ⟨y', k', rfl, hy'⟩
    · simp [Instr.sliceBounds]
    · simp [Instr.sliceBounds, Instr.sliceBound, asIntOf, e2 _ _ hy', h2]
    · simp [Instr.sliceBounds, Instr.sliceBound, asIntOf, e1 _ _ hy, h1]
    · simp [Instr.sliceBounds, Instr.sliceBound, asIntOf, e1 _ _ hy, e2 _ _ hy', h1, h2]
  simp [execOp, ho, hv, Instr.sliceAt, Instr.slice, run_underlying hu, hb]

theorem ls_index_str {t : TypeId} {ti : TI} (hT : TIok P t ti) (hk : ti.k = .str) {x y : Operand} (ho : o.op = .index t x y) {s : ByteArray} {k : IntKind} {i : Int} (h0 : 0 ≤ i) (h1 : i < s.size) :
    LStep P n o ⟨[(x, .str s), (y, .int k i)], [], [], .int .u8 (bget s i.toNat), []⟩ := by
  refine .pure hd fun C env M a hRl k1 _ => ?_
  have hx := hRl.ev x
  rw [k1 (x, .str s) (by simp)] at hx
  have hy := hRl.ev y
  rw [k1 (y, .int k i) (by simp)] at hy
  have hx := rep_str hx
  have hy := rep_int hy
  obtain ⟨d, hu, hf⟩ := hT.und
  rw [hk] at hf
  have : d = .string := hf
  subst this
  refine ⟨.int .u8 (bget s i.toNat), ?_, .of (.of rfl)⟩
  have hlt : i.toNat < s.size := by omega
  have hg : s[i.toNat]? = some s[i.toNat] := getElem?_pos s i.toNat hlt
  simp [execOp, ho, hx, hy, Instr.index, asIntOf, run_underlying hu, h0, hg, bget]

theorem ls_convert_int {src dst : TypeId} {ti tj : TI} (hS : TIok P src ti) (hD : TIok P dst tj) {j : IntKind} (hk : tj.k = .int j) {x : Operand} (ho : o.op = .convert src dst x) {k : IntKind} {i : Int} :
    LStep P n o ⟨[(x, .int k i)], [], [], .int j (j.wrap i), []⟩ := by
  refine .pure hd fun C env M a hRl k1 _ => ?_
  have hx := hRl.ev x
  rw [k1 (x, .int k i) (by simp)] at hx
  have hx := rep_int hx
  obtain ⟨d, hu, hf⟩ := hD.und
  rw [hk] at hf
  have : d = .int j := hf
  subst this
  obtain ⟨d2, hu2, _⟩ := hS.und
  refine ⟨.int j (j.wrap i), ?_, .of (.of rfl)⟩
  have hik : P.intKind dst = j := by simp [Program.intKind, hu]
  have := run_convert_int (P := P) M.w src dst k i (by simp [hu2]) (by rw [hik]; exact hu)
  rw [hik] at this
  simp only [execOp, ho, hx, Sem.run_bind, this, Result.andThen_ok, Sem.run_pure]

theorem ls_not {x : Operand} (ho : ∃ t, o.op = .unOp .not t x) {b : Bool} : LStep P n o ⟨[(x, .bool b)], [], [], .bool (!b), []⟩ := by
  refine .pure hd fun C env M a hRl k1 _ => ?_
  have hx := hRl.ev x
  rw [k1 (x, .bool b) (by simp)] at hx
  have hx := rep_bool hx
  obtain ⟨t, ho⟩ := ho
  exact ⟨.bool (!b), by simp [execOp, ho, hx, Op.unary], .of (.of rfl)⟩

theorem ls_neg {x : Operand} (ho : ∃ t, o.op = .unOp .neg t x) {k : IntKind} {i : Int} : LStep P n o ⟨[(x, .int k i)], [], [], .int k (k.wrap (0 - i)), []⟩ := by
  refine .pure hd fun C env M a hRl k1 _ => ?_
  have hx := hRl.ev x
  rw [k1 (x, .int k i) (by simp)] at hx
  have hx := rep_int hx
  obtain ⟨t, ho⟩ := ho
  exact ⟨.int k (k.wrap (0 - i)), by simp [execOp, ho, hx, Op.unary, Op.intArith], .of (.of rfl)⟩

theorem ls_extract {x : Operand} {i : Nat} (ho : o.op = .extract x i) {vs : List AV} {v : AV} (hi : vs[i]? = some v) : LStep P n o ⟨[(x, .tup vs)], [], [], v, []⟩ := by
  refine .pure hd fun C env M a hRl k1 _ => ?_
  have hx := hRl.ev x
  rw [k1 (x, .tup vs) (by simp)] at hx
  obtain ⟨us, hv, hs, hr⟩ := hx
  have hlt : i < us.size := by rw [hs]; exact (List.getElem?_eq_some_iff.1 hi).1
  obtain ⟨u, hg, he⟩ : ∃ u, us[i]? = some u ∧ u = us.getD i undef := ⟨_, arr_getD hlt, rfl⟩
  exact ⟨u, by simp [execOp, ho, hv, Instr.extract, hg], .of (by rw [he]; exact hr i v hi)⟩

theorem ls_fieldV {t ft : TypeId} {ti fti : TI} {fs : List (Nat × TypeId)} {i off : Nat} (hT : TIok P t ti) (hk : ti.k = .struct fs) (hi : fs[i]? = some (off, ft)) (hF : TIok P ft fti) (h0 : 0 < fti.size)
    {x : Operand} (ho : o.op = .field t x i) {cells : List AV} (hl : off + fti.size ≤ cells.length) : LStep P n o ⟨[(x, .agg cells)], [], [], segV fti cells off, []⟩ := by
  refine .pure hd fun C env M a hRl k1 _ => ?_
  have hx := hRl.ev x
  rw [k1 (x, .agg cells) (by simp)] at hx
  obtain ⟨cs, hv, hs, hr⟩ := hx
  obtain ⟨d, hu, hf⟩ := hT.und
  rw [hk] at hf
  obtain ⟨fields, rfl, hff⟩ := hf
  have : ∃ f, fields[i]? = some f ∧ f.offset = off ∧ f.type = ft := by
    rw [← hff] at hi
    simp only [List.getElem?_map, Option.map_eq_some_iff, Array.getElem?_toList] at hi
    obtain ⟨f, hf1, hf2⟩ := hi
    simp at hf2
    exact ⟨f, hf1, hf2.1, hf2.2⟩
  obtain ⟨f, hf1, rfl, rfl⟩ := this
  cases hag : fti.k.agg with
  | true =>
    refine ⟨.agg (cs.extract f.offset (f.offset + fti.size)), ?_, ?_⟩
    · simp [execOp, ho, hv, Instr.field, run_underlying hu, hf1, part, asAgg, hF.isAgg, hag, hF.size]
    · simp only [segV, hag, if_true]
      refine .of ⟨_, rfl, by simp; omega, fun j y hj => ?_⟩
      rw [List.getElem?_take] at hj
      split at hj
      · rename_i hjl
        rw [List.getElem?_drop] at hj
        have := hr _ y hj
        have e : (cs.extract f.offset (f.offset + fti.size)).getD j undef = cs.getD (f.offset + j) undef := by
          rw [Array.getD_eq_getD_getElem?, Array.getD_eq_getD_getElem?, Array.getElem?_extract, if_pos (by omega)]
        rw [e]
        exact this
      · simp at hj
  | false =>
    have hlt : f.offset < cs.size := by omega
    obtain ⟨u, hg, he⟩ : ∃ u, cs[f.offset]? = some u ∧ u = cs.getD f.offset undef := ⟨_, arr_getD hlt, rfl⟩
    refine ⟨u, ?_, ?_⟩
    · simp [execOp, ho, hv, Instr.field, run_underlying hu, hf1, part, asAgg, hF.isAgg, hag, hg]
    · simp only [segV, hag, Bool.false_eq_true, if_false]
      have hlc : f.offset < cells.length := by omega
      have : (cells.drop f.offset).headD .junk = cells[f.offset] := by
        rw [List.headD_eq_head?_getD, List.head?_drop]
        simp [hlc]
      rw [this, he]
      exact .of (.of (hr _ _ (List.getElem?_eq_getElem hlc)))

def isPtr : AV → Bool
  | .ptr _ _ => true
  | .rp _ _ => true
  | _ => false

theorem ls_nilCheck {x : Operand} (ho : o.op = .nilCheck x) {v : AV} (hp : isPtr v = true ∨ ∃ f caps, v = .clo f caps) : LStep P n o ⟨[(x, v)], [], [], v, []⟩ := by
  refine .pure hd fun C env M a hRl k1 _ => ?_
  have hx := hRl.ev x
  rw [k1 (x, v) (by simp)] at hx
  refine ⟨a.eval x, ?_, hx⟩
  have hs : (∃ A, a.eval x = .pointer (some A)) ∨ ∃ f c, a.eval x = .func (.func f) #[] c := by
    rcases hp with hp | ⟨f, caps, rfl⟩
    · cases v <;> simp [isPtr] at hp
      · obtain ⟨_, b, _, _, _, hv⟩ := hx; exact .inl ⟨_, hv⟩
      · obtain ⟨b, o', hv, _⟩ := hx; exact .inl ⟨_, hv⟩
    · obtain ⟨bs, hv, _⟩ := hx; exact .inr ⟨f, _, hv⟩
  rcases hs with ⟨A, hv⟩ | ⟨f, c, hv⟩ <;> simp [execOp, ho, hv]

theorem ls_makeFunc {f : FuncId} {captured : Array Operand} (ho : o.op = .makeFunc (.func f) #[] captured) {rs : List Ref} (need : List (Operand × AV)) (R : List (Ref × Ob)) (hl : rs.length = captured.toList.length)
    (hc : ∀ (j : Nat) x r, captured.toList[j]? = some x → rs[j]? = some r → (x, AV.ptr r 0) ∈ need) : LStep P n o ⟨need, R, [], .clo f rs, []⟩ := by
  refine .pure hd fun C env M a hRl k1 _ => ?_
  have key : ∀ (j : Nat), j < rs.length → ∃ r b x, rs[j]? = some r ∧ captured.toList[j]? = some x ∧ (∃ cells, M.obs r = some (.box cells)) ∧ M.mu r = some b ∧ a.eval x = .pointer (some ⟨b, 0, none⟩) := by
    intro j hj
    have hx : captured.toList[j]? = some (captured.toList[j]'(by omega)) := List.getElem?_eq_getElem (by omega)
    have hr : rs[j]? = some rs[j] := List.getElem?_eq_getElem hj
    have := hRl.ev (captured.toList[j]'(by omega))
    rw [k1 _ (hc j _ _ hx hr)] at this
    obtain ⟨cells, b, h3, _, hm, hv⟩ := this
    exact ⟨_, b, _, hr, hx, ⟨cells, h3⟩, hm, hv⟩
  obtain ⟨bs, hbl, hbg⟩ : ∃ bs : List Nat, bs.length = rs.length ∧ ∀ (j : Nat) r b, rs[j]? = some r → M.mu r = some b → bs[j]? = some b :=
    ⟨(List.range rs.length).map fun j => ((rs[j]?).bind M.mu).getD 0, by simp, fun j r b h1 h2 => by
      have hjl : j < rs.length := (List.getElem?_eq_some_iff.1 h1).1
      simp only [List.getElem?_map, List.getElem?_range hjl, Option.map_some, h1, Option.bind_some, h2, Option.getD_some]⟩
  refine ⟨.func (.func f) #[] (captured.map a.eval), by simp [execOp, ho, Instr.makeFunc], .of (.of ⟨bs, ?_, hbl, fun j r hj => ?_⟩)⟩
  · congr 1
    apply Array.ext'
    apply List.ext_getElem?
    intro j
    by_cases hj : j < rs.length
    · obtain ⟨r, b, x, h1, h2, _, h4, h5⟩ := key j hj
      simp only [Array.toList_map, List.getElem?_map, h2, Option.map_some, h5, hbg j r b h1 h4]
    · have h1 : captured.toList[j]? = none := List.getElem?_eq_none (by omega)
      have h2 : bs[j]? = none := List.getElem?_eq_none (by omega)
      simp only [Array.toList_map, List.getElem?_map, h1, h2, Option.map_none]
  · have hjl : j < rs.length := (List.getElem?_eq_some_iff.1 hj).1
    obtain ⟨r', b, x, h1, h2, h3, h4, h5⟩ := key j hjl
    rw [hj] at h1
    have := Option.some.inj h1
    subst this
    exact ⟨h3, by rw [hbg j r b hj h4, h4]⟩
end

end Go.Sim
