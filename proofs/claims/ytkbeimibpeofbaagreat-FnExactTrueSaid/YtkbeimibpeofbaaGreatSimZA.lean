/- A region that draws its order may be run in the text's order: told from the operations alone. -/
import Derived.Test.YtkbeimibpeofbaaGreatSimZ
namespace Go.Sim

inductive Rw where
  | pure
  | read
  | write
  deriving DecidableEq

def rwOf : Op → Rw
  | .move _ => .pure
  | .assign _ => .pure
  | .pick _ _ _ => .pure
  | .binOp _ _ _ _ _ => .pure
  | .unOp _ _ _ => .pure
  | .convert _ _ _ => .pure
  | .extract _ _ => .pure
  | .nilCheck _ => .pure
  | .makeFunc _ _ _ => .pure
  | .field _ _ _ => .pure
  | .index _ _ _ => .pure
  | .build _ _ => .pure
  | .load _ _ => .read
  | .fieldAddr _ _ _ => .read
  | .indexAddr _ _ _ => .read
  | .call c => match c.callee with
    | .builtin .len => .read
    | .builtin .max => .pure
    | .builtin .min => .pure
    | _ => .write
  | _ => .write

def tmpsOf (xs : List Operand) : List Nat := xs.filterMap fun x => match x with
  | .tmp t => some t
  | _ => none

/-- The slots that an operation may read. -/
def readsT (ops : Array Oper) (o : Oper) : List Nat :=
  (match o.guard with
    | some (j, _) => match ops[j]? with
      | some oj => oj.dst.toList
      | none => []
    | none => []) ++ tmpsOf o.op.operands.toList

def indepS (ops : Array Oper) (oi oj : Oper) : Bool :=
  (match oi.dst with
    | some d => !(readsT ops oj).contains d && oj.dst != some d
    | none => true) &&
  (match oj.dst with
    | some d => !(readsT ops oi).contains d
    | none => true) &&
  (rwOf oi.op == .pure || rwOf oj.op == .pure || (rwOf oi.op == .read && rwOf oj.op == .read))

def pairsS (ops : Array Oper) : Nat → List (Oper × Nat) → Bool
  | _, [] => true
  | k, x :: xs => xs.all (fun y => y.2.testBit k || indepS ops x.1 y.1) && pairsS ops (k + 1) xs

def orderS (ops : Array Oper) : Bool := pairsS ops 0 (ops.toList.zip (masks ops.toList [])) && edgesOk 0 ops.toList

structure Foot (ops : Array Oper) (o : Oper) (s : Step) : Prop where
  need : ∀ t ∈ needT s, t ∈ readsT ops o
  pure : rwOf o.op = .pure → s.R = [] ∧ s.Nw = [] ∧ s.U = []
  read : rwOf o.op = .read → s.U = []

theorem indep_of {ops : Array Oper} {oi oj : Oper} {si sj : Step} (hi : Foot ops oi si) (hj : Foot ops oj sj) (h : indepS ops oi oj = true) : indep oi oj si sj = true := by
  simp only [indepS, Bool.and_eq_true, Bool.or_eq_true, beq_iff_eq] at h
  obtain ⟨⟨h1, h2⟩, h3⟩ := h
  simp only [indep, Bool.and_eq_true]
  refine ⟨⟨⟨?_, ?_⟩, ?_⟩, ?_⟩
  · cases hd : oi.dst with
    | none => rfl
    | some d =>
      rw [hd] at h1
      simp only [Bool.and_eq_true, Bool.not_eq_true', List.contains_eq_mem, decide_eq_false_iff_not] at h1 ⊢
      exact ⟨fun hm => h1.1 (hj.need d hm), h1.2⟩
  · cases hd : oj.dst with
    | none => rfl
    | some d =>
      rw [hd] at h2
      simp only [Bool.not_eq_true', List.contains_eq_mem, decide_eq_false_iff_not] at h2 ⊢
      exact fun hm => h2 (hi.need d hm)
  · rcases h3 with (h3 | h3) | ⟨h3, h4⟩
    · simp [wkeys, (hi.pure h3).2.2]
    · have := hj.pure h3
      simp [rkeys, this.1, this.2.1, this.2.2]
    · simp [wkeys, hi.read h3]
  · rcases h3 with (h3 | h3) | ⟨h3, h4⟩
    · have := hi.pure h3
      simp [rkeys, this.1, this.2.1, this.2.2]
    · simp [wkeys, (hj.pure h3).2.2]
    · simp [wkeys, hj.read h4]

theorem pairsOk_of {ops : Array Oper} : ∀ (l : List Oper) (ss : List Step) (ms : List Nat) (k : Nat), (∀ (i : Nat) o s, l[i]? = some o → ss[i]? = some s → Foot ops o s) → pairsS ops k (l.zip ms) = true →
    pairsOk k (l.zip (ss.zip ms)) = true := by
  intro l
  induction l with
  | nil => intro ss ms k _ _; simp [pairsOk]
  | cons o l ih =>
    intro ss ms k hf h
    cases ss with
    | nil => simp [pairsOk]
    | cons s ss =>
      cases ms with
      | nil => simp [pairsOk]
      | cons m ms =>
        simp only [List.zip_cons_cons, pairsS, pairsOk, Bool.and_eq_true] at h ⊢
        have hf' : ∀ (i : Nat) o s, l[i]? = some o → ss[i]? = some s → Foot ops o s := fun i o' s' ho hs => hf (i + 1) o' s' (by simpa using ho) (by simpa using hs)
        refine ⟨List.all_eq_true.2 fun y hy => ?_, ih ss ms (k + 1) hf' h.2⟩
        obtain ⟨i, hi⟩ := List.getElem?_of_mem hy
        obtain ⟨oj, sj, mj⟩ := y
        rw [List.getElem?_zip_eq_some] at hi
        obtain ⟨h1, h2⟩ := hi
        rw [List.getElem?_zip_eq_some] at h2
        have := List.all_eq_true.1 h.1 (oj, mj) (List.mem_of_getElem? (i := i) (List.getElem?_zip_eq_some.2 ⟨h1, h2.2⟩))
        simp only [Bool.or_eq_true] at this ⊢
        exact this.imp id fun h3 => indep_of (hf 0 o s rfl rfl) (hf' i oj sj h1 h2.1) h3

theorem orderOk_of {ops : Array Oper} {ss : List Step} (hf : ∀ (i : Nat) o s, ops.toList[i]? = some o → ss[i]? = some s → Foot ops o s) (h : orderS ops = true) : orderOk ops.toList ss = true := by
  simp only [orderS, orderOk, Bool.and_eq_true] at h ⊢
  exact ⟨pairsOk_of _ _ _ _ hf h.1, h.2⟩

theorem needT_of {s : Step} {xs : List Operand} (h : ∀ p ∈ s.need, p.1 ∈ xs) : ∀ t ∈ needT s, t ∈ tmpsOf xs := by
  intro t ht
  obtain ⟨p, hp, he⟩ := List.mem_filterMap.1 ht
  have hm := h p hp
  obtain ⟨x, v⟩ := p
  cases x with
  | tmp u =>
    simp only [Option.some.injEq] at he
    subst he
    exact List.mem_filterMap.2 ⟨_, hm, rfl⟩
  | _ => cases he

theorem freeze_need (obs : Ref → Option Ob) (Z : List Ref) (s : Step) : (s.freeze obs Z).need = s.need := by
  cases Z <;> rfl

structure FootO (xs : List Operand) (op : Op) (s : Step) : Prop where
  need : ∀ p ∈ s.need, p.1 ∈ xs
  pure : rwOf op = .pure → s.R = [] ∧ s.Nw = [] ∧ s.U = []
  read : rwOf op = .read → s.U = []

section
variable {cfg : Cfg} {fi n : Nat} {env : Nat → AV} {obs : Ref → Option Ob} {call : FuncId → List AV → List Ob → Option (AV × List Ob)} {o : Oper} {s : Step}

theorem loadS_foot {ti : TI} {x : Operand} (h : loadS env obs ti x = some s) : (∀ p ∈ s.need, p.1 ∈ [x]) ∧ s.U = [] := by
  unfold loadS at h
  split at h
  · obtain ⟨_, rfl⟩ := when_some h; simp
  · split at h
    · obtain ⟨_, rfl⟩ := when_some h; simp
    · cases h
  · split at h
    · split at h
      · obtain ⟨_, rfl⟩ := when_some h; simp
      · cases h
    · cases h
  · cases h

theorem storeS_foot {ti : TI} {x y : Operand} (h : storeS env obs ti x y = some s) : ∀ p ∈ s.need, p.1 ∈ [x, y] := by
  unfold storeS at h
  split at h
  · cases h
  · split at h
    · split at h
      · obtain ⟨_, rfl⟩ := when_some h; simp
      · cases h
    · split at h
      · split at h
        · obtain ⟨_, rfl⟩ := when_some h; rw [freeze_need]; simp
        · cases h
      · cases h
    · cases h

theorem fieldS_foot {off : Nat} {x : Operand} (h : fieldS env obs off x = some s) : (∀ p ∈ s.need, p.1 ∈ [x]) ∧ s.U = [] := by
  unfold fieldS at h
  split at h
  · split at h
    · obtain ⟨_, rfl⟩ := when_some h; simp
    · cases h
  · have := Option.some.inj h
    subst this
    simp
  · split at h
    · obtain ⟨_, rfl⟩ := when_some h; simp
    · cases h
  · cases h

theorem indexS_foot {eti : TI} {x y : Operand} (h : indexS env obs eti x y = some s) : (∀ p ∈ s.need, p.1 ∈ [x, y]) ∧ s.U = [] := by
  unfold indexS at h
  split at h
  · split at h
    · split at h
      · obtain ⟨_, rfl⟩ := when_some h; simp
      · cases h
    · split at h
      · split at h
        · obtain ⟨_, rfl⟩ := when_some h; simp
        · cases h
      · obtain ⟨_, rfl⟩ := when_some h; simp
      · cases h
    · cases h
  · cases h

theorem indexArrS_foot {m : Nat} {eti : TI} {x y : Operand} (h : indexArrS env obs m eti x y = some s) : (∀ p ∈ s.need, p.1 ∈ [x, y]) ∧ s.U = [] := by
  unfold indexArrS at h
  split at h
  · split at h
    · split at h
      · obtain ⟨_, rfl⟩ := when_some h; simp
      · cases h
    · obtain ⟨_, rfl⟩ := when_some h; simp
    · cases h
  · cases h

theorem buildSliceS_foot {e : TypeId} {eti : TI} {r : Ref} {wr : Bool} {len : Nat} {parts : List (Nat × Operand)} (h : buildSliceS env obs e eti r wr len parts = some s) : ∀ p ∈ s.need, p.1 ∈ parts.map (·.2) := by
  unfold buildSliceS at h
  split at h
  · cases h
  · obtain ⟨_, rfl⟩ := when_some h
    rw [freeze_need]
    intro p hp
    obtain ⟨q, hq, rfl⟩ := List.mem_map.1 hp
    exact List.mem_map.2 ⟨q, hq, rfl⟩

theorem bnd_foot {d : Nat} {x : Option Operand} {l : Nat} {ns : List (Operand × AV)} (h : bnd env d x = some (l, ns)) : ∀ p ∈ ns, p.1 ∈ x.toList := by
  unfold bnd at h
  split at h
  · cases h; simp
  · split at h
    · split at h
      · cases h; simp
      · cases h
    · cases h

theorem sliceS_foot {t : TypeId} {x : Operand} {lo hi : Option Operand} (h : sliceS cfg env obs t x lo hi = some s) : ∀ p ∈ s.need, p.1 ∈ [x] ++ lo.toList ++ hi.toList := by
  have key : ∀ {l n1 hh n2 d1 d2} {v : AV}, bnd env d1 lo = some (l, n1) → bnd env d2 hi = some (hh, n2) → ∀ p ∈ (x, v) :: (n1 ++ n2), p.1 ∈ [x] ++ lo.toList ++ hi.toList := by
    intro l n1 hh n2 d1 d2 v h1 h2 p hp
    rcases List.mem_cons.1 hp with rfl | hp
    · simp
    · rcases List.mem_append.1 hp with hp | hp
      · have := bnd_foot h1 p hp; simp [List.mem_append] at this ⊢; exact .inr (.inl this)
      · have := bnd_foot h2 p hp; simp [List.mem_append] at this ⊢; exact .inr (.inr this)
  unfold sliceS at h
  split at h
  · split at h
    · rename_i h1 h2
      obtain ⟨_, rfl⟩ := when_some h
      exact key h1 h2
    · cases h
  · split at h
    · cases h
    · simp only at h
      split at h
      · split at h
        · rename_i h1 h2
          obtain ⟨_, rfl⟩ := when_some h
          rw [freeze_need]
          exact key h1 h2
        · cases h
      · cases h

theorem appendS_foot {e : TypeId} {eti : TI} {k : Ref} {wr : Bool} {x y : Operand} (h : appendS env obs e eti k wr x y = some s) : ∀ p ∈ s.need, p.1 ∈ [x, y] := by
  unfold appendS at h
  simp only at h
  split at h
  · obtain ⟨_, rfl⟩ := when_some h; simp
  · split at h
    · obtain ⟨_, rfl⟩ := when_some h; simp
    · cases h
  · cases h

theorem callG'_foot {d : Nat} {fo : Operand} {f : FuncId} {caps : List Ref} {xs : List Operand} (h : callG' cfg env obs call d fo f caps xs = some s) : ∀ p ∈ s.need, p.1 ∈ fo :: xs := by
  have key : ∀ {v : AV}, ∀ p ∈ (fo, v) :: xs.map (fun x => (x, evAV env x)), p.1 ∈ fo :: xs := by
    intro v p hp
    rcases List.mem_cons.1 hp with rfl | hp
    · exact .head _
    · obtain ⟨q, hq, rfl⟩ := List.mem_map.1 hp
      exact .tail _ hq
  unfold callG' at h
  simp only at h
  split at h
  · cases h
  · split at h
    · cases h
    · split at h
      · obtain ⟨_, rfl⟩ := when_some h
        exact key
      · obtain ⟨_, rfl⟩ := when_some h
        rw [freeze_need]
        exact key

theorem builtinS_foot {c : Call} {b : Builtin} {d : Nat} (hc : c.callee = .builtin b) (h : builtinS cfg fi env obs b d c.args.toList c.argTypes.toList = some s) : FootO c.args.toList (.call c) s := by
  unfold builtinS at h
  split at h
  · rename_i ha hat
    split at h
    · obtain ⟨_, rfl⟩ := when_some h
      exact ⟨by simp [ha], fun he => by simp [rwOf, hc] at he, fun _ => rfl⟩
    · split at h
      · obtain ⟨_, rfl⟩ := when_some h
        exact ⟨by simp [ha], fun he => by simp [rwOf, hc] at he, fun _ => rfl⟩
      · cases h
  · rename_i ha
    split at h
    · have := Option.some.inj h
      subst this
      exact ⟨by simp [ha], fun _ => ⟨rfl, rfl, rfl⟩, fun _ => rfl⟩
    · cases h
  · rename_i ha
    split at h
    · have := Option.some.inj h
      subst this
      exact ⟨by simp [ha], fun _ => ⟨rfl, rfl, rfl⟩, fun _ => rfl⟩
    · cases h
  · rename_i ha hat
    split at h
    · split at h
      · exact ⟨by rw [ha]; exact appendS_foot h, fun he => by simp [rwOf, hc] at he, fun he => by simp [rwOf, hc] at he⟩
      · cases h
    · cases h
  · cases h

theorem stepOp_foot (h : stepOp cfg fi env obs call o = some s) : FootO o.op.operands.toList o.op s := by
  unfold stepOp at h
  simp only at h
  split at h
  case h_1 ho => cases Option.some.inj h; rw [ho]; exact ⟨by simp [Op.operands], fun _ => ⟨rfl, rfl, rfl⟩, fun _ => rfl⟩
  case h_2 ho => cases Option.some.inj h; rw [ho]; exact ⟨by simp [Op.operands], fun _ => ⟨rfl, rfl, rfl⟩, fun _ => rfl⟩
  case h_3 ho =>
    split at h
    · rename_i b _
      cases Option.some.inj h; rw [ho]; exact ⟨by cases b <;> simp [Op.operands], fun _ => ⟨rfl, rfl, rfl⟩, fun _ => rfl⟩
    · cases h
  case h_4 ho =>
    obtain ⟨v, hv, rfl⟩ := Option.map_eq_some_iff.1 h
    rw [ho]; exact ⟨by simp [Op.operands], fun _ => ⟨rfl, rfl, rfl⟩, fun _ => rfl⟩
  case h_5 ho =>
    split at h
    · cases Option.some.inj h; rw [ho]; exact ⟨by simp [Op.operands], fun _ => ⟨rfl, rfl, rfl⟩, fun _ => rfl⟩
    · cases h
  case h_6 ho =>
    split at h
    · cases Option.some.inj h; rw [ho]; exact ⟨by simp [Op.operands], fun _ => ⟨rfl, rfl, rfl⟩, fun _ => rfl⟩
    · cases h
  case h_7 ho =>
    split at h
    · cases Option.some.inj h; rw [ho]; exact ⟨by simp [Op.operands], fun _ => ⟨rfl, rfl, rfl⟩, fun _ => rfl⟩
    · cases h
  case h_8 ho =>
    split at h
    · split at h
      · cases Option.some.inj h; rw [ho]; exact ⟨by simp [Op.operands], fun _ => ⟨rfl, rfl, rfl⟩, fun _ => rfl⟩
      · cases h
    · cases h
  case h_9 ho =>
    split at h
    · cases Option.some.inj h; rw [ho]; exact ⟨by simp [Op.operands], fun _ => ⟨rfl, rfl, rfl⟩, fun _ => rfl⟩
    · cases Option.some.inj h; rw [ho]; exact ⟨by simp [Op.operands], fun _ => ⟨rfl, rfl, rfl⟩, fun _ => rfl⟩
    · cases Option.some.inj h; rw [ho]; exact ⟨by simp [Op.operands], fun _ => ⟨rfl, rfl, rfl⟩, fun _ => rfl⟩
    · cases h
  case h_10 first captured ho =>
    split at h
    · obtain ⟨_, rfl⟩ := when_some h
      rw [ho]
      refine ⟨fun p hp => ?_, fun _ => ⟨rfl, rfl, rfl⟩, fun _ => rfl⟩
      obtain ⟨q, hq, rfl⟩ := List.mem_map.1 hp
      simp only [Op.operands, Array.toList_append, List.mem_append]
      exact .inr hq
    · cases h
  case h_11 ho =>
    split at h
    · obtain ⟨_, rfl⟩ := when_some h
      rw [ho]; exact ⟨by simp, fun he => by simp [rwOf] at he, fun he => by simp [rwOf] at he⟩
    · cases h
  case h_12 ho =>
    split at h
    · obtain ⟨_, rfl⟩ := when_some h
      rw [ho]; exact ⟨by simp [Op.operands], fun he => by simp [rwOf] at he, fun he => by simp [rwOf] at he⟩
    · cases h
  case h_13 ho =>
    split at h
    · split at h
      · have := loadS_foot h
        rw [ho]; exact ⟨by simpa [Op.operands] using this.1, fun he => by simp [rwOf] at he, fun _ => this.2⟩
      · cases h
    · cases h
  case h_14 ho =>
    split at h
    · split at h
      · have := storeS_foot h
        rw [ho]; exact ⟨by simpa [Op.operands] using this, fun he => by simp [rwOf] at he, fun he => by simp [rwOf] at he⟩
      · cases h
    · cases h
  case h_15 ho =>
    split at h
    · have := fieldS_foot h
      rw [ho]; exact ⟨by simpa [Op.operands] using this.1, fun he => by simp [rwOf] at he, fun _ => this.2⟩
    · cases h
  case h_16 ho =>
    split at h
    · obtain ⟨_, rfl⟩ := when_some h
      rw [ho]; exact ⟨by simp [Op.operands], fun _ => ⟨rfl, rfl, rfl⟩, fun _ => rfl⟩
    · cases h
  case h_17 ho =>
    split at h
    · have := indexS_foot h
      rw [ho]; exact ⟨by simpa [Op.operands] using this.1, fun he => by simp [rwOf] at he, fun _ => this.2⟩
    · split at h
      · have := indexArrS_foot h
        rw [ho]; exact ⟨by simpa [Op.operands] using this.1, fun he => by simp [rwOf] at he, fun _ => this.2⟩
      · cases h
  case h_18 ho =>
    split at h
    · obtain ⟨_, rfl⟩ := when_some h
      rw [ho]; exact ⟨by simp [Op.operands], fun _ => ⟨rfl, rfl, rfl⟩, fun _ => rfl⟩
    · cases h
  case h_19 parts ho =>
    split at h
    · split at h
      · obtain ⟨_, rfl⟩ := when_some h
        rw [ho]
        refine ⟨fun p hp => ?_, fun _ => ⟨rfl, rfl, rfl⟩, fun _ => rfl⟩
        obtain ⟨q, hq, rfl⟩ := List.mem_map.1 hp
        simp only [Op.operands]
        exact List.mem_map.2 ⟨q, hq, rfl⟩
      · cases h
    · cases h
  case h_20 ho =>
    split at h
    · have := buildSliceS_foot h
      rw [ho]; exact ⟨by simpa only [Op.operands] using this, fun he => by simp [rwOf] at he, fun he => by simp [rwOf] at he⟩
    · cases h
  case h_21 ho =>
    split at h
    · obtain ⟨_, rfl⟩ := when_some h
      rw [ho]; exact ⟨by simp [Op.operands], fun he => by simp [rwOf] at he, fun he => by simp [rwOf] at he⟩
    · cases h
  case h_22 ho =>
    have := sliceS_foot h
    rw [ho]; exact ⟨by simpa [Op.operands] using this, fun he => by simp [rwOf] at he, fun he => by simp [rwOf] at he⟩
  case h_23 c ho =>
    split at h
    · rename_i b hc
      have := builtinS_foot hc h
      rw [ho]
      exact ⟨by simpa [Op.operands, Call.operands, hc] using this.need, this.pure, this.read⟩
    · rename_i fo hc
      split at h
      · have := callG'_foot h
        rw [ho]
        exact ⟨by simpa [Op.operands, Call.operands, hc] using this, fun he => by simp [rwOf, hc] at he, fun he => by simp [rwOf, hc] at he⟩
      · cases h
    · cases h
  case h_24 => cases h

theorem stepG_foot {ops : Array Oper} {st : St} (h : stepG cfg fi n call ops o st = some s) : Foot ops o s := by
  unfold stepG at h
  split at h
  · split at h
    · have := stepOp_foot h
      exact ⟨fun t ht => List.mem_append_right _ (needT_of this.need t ht), this.pure, this.read⟩
    · rename_i j b hg
      split at h
      · cases h
      · rename_i d y b' hy
        obtain ⟨_, oj, hj, hdj, _⟩ := yieldA_env hy
        have hd : d ∈ readsT ops o := by
          refine List.mem_append_left _ ?_
          rw [hg]
          simp [hj, hdj]
        split at h
        · split at h
          · obtain ⟨s', hs', rfl⟩ := Option.map_eq_some_iff.1 h
            have := stepOp_foot hs'
            refine ⟨fun t ht => ?_, this.pure, this.read⟩
            simp only [needT, List.filterMap_cons] at ht
            rcases List.mem_cons.1 ht with rfl | ht
            · exact hd
            · exact List.mem_append_right _ (needT_of this.need t ht)
          · cases Option.some.inj h
            refine ⟨fun t ht => ?_, fun _ => ⟨rfl, rfl, rfl⟩, fun _ => rfl⟩
            have : t = d := by simpa [needT] using ht
            subst this
            exact hd
        · cases h
  · cases h

theorem runOpsS_foot {ops : Array Oper} : ∀ (l : List Oper) (st : St) (ss : List Step) (st' : St), runOpsS cfg fi n call ops l st = some (ss, st') → ∀ (i : Nat) o s, l[i]? = some o → ss[i]? = some s → Foot ops o s := by
  intro l
  induction l with
  | nil => intro st ss st' _ i o s hi; simp at hi
  | cons o l ih =>
    intro st ss st' h i o' s' hi hs
    simp only [runOpsS] at h
    split at h
    · rename_i s hs0
      split at h
      · rename_i ss' st'' hr
        simp only [Option.some.injEq, Prod.mk.injEq] at h
        obtain ⟨rfl, rfl⟩ := h
        cases i with
        | zero =>
          have e1 : o = o' := by simpa using hi
          have e2 : s = s' := by simpa using hs
          subst e1 e2
          exact stepG_foot hs0
        | succ i => exact ih _ _ _ hr i o' s' (by simpa using hi) (by simpa using hs)
      · cases h
    · cases h

/-- A region that draws its order, if its operations alone say that it does not matter. -/
theorem runRegion_any {ops : Array Oper} (ho : orderS ops = true) (st : St) : runRegion cfg fi n call ops true st = runOps cfg fi n call ops ops.toList st := by
  have key : ∀ (l : List Oper) (st : St), runOps cfg fi n call ops l st = (runOpsS cfg fi n call ops l st).map (·.2) := by
    intro l
    induction l with
    | nil => intro st; rfl
    | cons o l ih =>
      intro st
      simp only [runOps, runOpsS]
      cases stepG cfg fi n call ops o st with
      | none => rfl
      | some s =>
        simp only [ih]
        cases runOpsS cfg fi n call ops l (st.step ops o s) with
        | none => rfl
        | some p => rfl
  unfold runRegion
  simp only [if_true]
  rw [key]
  cases hr : runOpsS cfg fi n call ops ops.toList st with
  | none => rfl
  | some p =>
    obtain ⟨ss, st'⟩ := p
    simp only [orderOk_of (runOpsS_foot _ _ _ _ hr) ho, if_true]
    rfl

end

/-! ### With what was seen: an operation that made and changed nothing only reads -/
def rwQ (op : Op) (q : Bool) : Rw :=
  match rwOf op with
  | .write => match q with
    | true => .read
    | false => .write
  | r => r
def indepQ (ops : Array Oper) (oi oj : Oper) (qi qj : Bool) : Bool :=
  (match oi.dst with
    | some d => !(readsT ops oj).contains d && oj.dst != some d
    | none => true) &&
  (match oj.dst with
    | some d => !(readsT ops oi).contains d
    | none => true) &&
  (rwQ oi.op qi == .pure || rwQ oj.op qj == .pure || (rwQ oi.op qi == .read && rwQ oj.op qj == .read))
def pairsQ (ops : Array Oper) : Nat → List (Oper × Bool × Nat) → Bool
  | _, [] => true
  | k, x :: xs => xs.all (fun y => y.2.2.testBit k || indepQ ops x.1 y.1 x.2.1 y.2.1) && pairsQ ops (k + 1) xs
def orderQ (ops : Array Oper) (qs : List Bool) : Bool := pairsQ ops 0 (ops.toList.zip (qs.zip (masks ops.toList []))) && edgesOk 0 ops.toList

theorem indepQ_of {ops : Array Oper} {oi oj : Oper} {si sj : Step} (hi : Foot ops oi si) (hj : Foot ops oj sj) {qi qj : Bool} (hqi : qi = true → si.U = []) (hqj : qj = true → sj.U = [])
    (h : indepQ ops oi oj qi qj = true) : indep oi oj si sj = true := by
  have pureQ : ∀ {o : Oper} {s : Step} {q : Bool}, Foot ops o s → rwQ o.op q = .pure → s.R = [] ∧ s.Nw = [] ∧ s.U = [] := by
    intro o s q hf hp
    refine hf.pure ?_
    unfold rwQ at hp
    split at hp
    · split at hp <;> cases hp
    · exact hp
  have readQ : ∀ {o : Oper} {s : Step} {q : Bool}, Foot ops o s → (q = true → s.U = []) → rwQ o.op q = .read → s.U = [] := by
    intro o s q hf hq hp
    unfold rwQ at hp
    split at hp
    · split at hp
      · exact hq rfl
      · cases hp
    · exact hf.read hp
  simp only [indepQ, Bool.and_eq_true, Bool.or_eq_true, beq_iff_eq] at h
  obtain ⟨⟨h1, h2⟩, h3⟩ := h
  simp only [indep, Bool.and_eq_true]
  refine ⟨⟨⟨?_, ?_⟩, ?_⟩, ?_⟩
  · cases hd : oi.dst with
    | none => rfl
    | some d =>
      rw [hd] at h1
      simp only [Bool.and_eq_true, Bool.not_eq_true', List.contains_eq_mem, decide_eq_false_iff_not] at h1 ⊢
      exact ⟨fun hm => h1.1 (hj.need d hm), h1.2⟩
  · cases hd : oj.dst with
    | none => rfl
    | some d =>
      rw [hd] at h2
      simp only [Bool.not_eq_true', List.contains_eq_mem, decide_eq_false_iff_not] at h2 ⊢
      exact fun hm => h2 (hi.need d hm)
  · rcases h3 with (h3 | h3) | ⟨h3, h4⟩
    · simp [wkeys, (pureQ hi h3).2.2]
    · have := pureQ hj h3
      simp [rkeys, this.1, this.2.1, this.2.2]
    · simp [wkeys, readQ hi hqi h3]
  · rcases h3 with (h3 | h3) | ⟨h3, h4⟩
    · have := pureQ hi h3
      simp [rkeys, this.1, this.2.1, this.2.2]
    · simp [wkeys, (pureQ hj h3).2.2]
    · simp [wkeys, readQ hj hqj h4]

theorem pairsOk_Q {ops : Array Oper} : ∀ (l : List Oper) (ss : List Step) (qs : List Bool) (ms : List Nat) (k : Nat), (∀ (i : Nat) o s, l[i]? = some o → ss[i]? = some s → Foot ops o s) →
    qs.length = ss.length → (∀ (i : Nat) q s, qs[i]? = some q → ss[i]? = some s → q = true → s.U = []) → pairsQ ops k (l.zip (qs.zip ms)) = true → pairsOk k (l.zip (ss.zip ms)) = true := by
  intro l
  induction l with
  | nil => intro ss qs ms k _ _ _ _; simp [pairsOk]
  | cons o l ih =>
    intro ss qs ms k hf hl hq h
    cases ss with
    | nil => simp [pairsOk]
    | cons s ss =>
      cases qs with
      | nil => simp at hl
      | cons q qs =>
        cases ms with
        | nil => simp [pairsOk]
        | cons m ms =>
          simp only [List.zip_cons_cons, pairsQ, pairsOk, Bool.and_eq_true] at h ⊢
          have hl' : qs.length = ss.length := by simpa using hl
          have hf' : ∀ (i : Nat) o s, l[i]? = some o → ss[i]? = some s → Foot ops o s := fun i o' s' ho hs => hf (i + 1) o' s' (by simpa using ho) (by simpa using hs)
          have hq' : ∀ (i : Nat) q s, qs[i]? = some q → ss[i]? = some s → q = true → s.U = [] := fun i q' s' h1 h2 => hq (i + 1) q' s' (by simpa using h1) (by simpa using h2)
          refine ⟨List.all_eq_true.2 fun y hy => ?_, ih ss qs ms (k + 1) hf' hl' hq' h.2⟩
          obtain ⟨i, hi⟩ := List.getElem?_of_mem hy
          obtain ⟨oj, sj, mj⟩ := y
          rw [List.getElem?_zip_eq_some] at hi
          obtain ⟨h1, h2⟩ := hi
          rw [List.getElem?_zip_eq_some] at h2
          have hlt : i < qs.length := by rw [hl']; exact (List.getElem?_eq_some_iff.1 h2.1).1
          have hqi : qs[i]? = some qs[i] := List.getElem?_eq_getElem hlt
          have := List.all_eq_true.1 h.1 (oj, qs[i], mj) (List.mem_of_getElem? (i := i) (List.getElem?_zip_eq_some.2 ⟨h1, List.getElem?_zip_eq_some.2 ⟨hqi, h2.2⟩⟩))
          simp only [Bool.or_eq_true] at this ⊢
          exact this.imp id fun h3 => indepQ_of (hf 0 o s rfl rfl) (hf' i oj sj h1 h2.1) (hq 0 q s rfl rfl) (hq' i _ sj hqi h2.1) h3

theorem orderOk_Q {ops : Array Oper} {ss : List Step} {qs : List Bool} (hf : ∀ (i : Nat) o s, ops.toList[i]? = some o → ss[i]? = some s → Foot ops o s) (hl : qs.length = ss.length)
    (hq : ∀ (i : Nat) q s, qs[i]? = some q → ss[i]? = some s → q = true → s.U = []) (h : orderQ ops qs = true) : orderOk ops.toList ss = true := by
  simp only [orderQ, orderOk, Bool.and_eq_true] at h ⊢
  exact ⟨pairsOk_Q _ _ _ _ _ hf hl hq h.1, h.2⟩

end Go.Sim
