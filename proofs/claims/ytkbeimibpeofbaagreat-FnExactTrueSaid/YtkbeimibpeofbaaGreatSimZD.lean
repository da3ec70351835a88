/- Arguments as a row reads them, as abstract values; what a contract says of a law. -/
import Derived.Test.YtkbeimibpeofbaaGreatSimZC
import Derived.Carry
import Derived.WideKeyArgs
import Derived.Handed
import Derived.ChangeSame
namespace Go.Sim
open Go.ChangeShapes

def prAll (W : World) : Prot := fun b o => ∃ v, W.cell? ⟨b, o, none⟩ = some v

/-- Some cells. -/
def RdL (W : World) (row : List AV) (cs : List Value) : Prop := cs.length = row.length ∧ ∀ (j : Nat) x, row[j]? = some x → ∃ u, cs[j]? = some u ∧ RepC (prAll W) W x u

theorem RdL.append {W : World} {r s : List AV} {a b : List Value} (h : RdL W r a) (k : RdL W s b) : RdL W (r ++ s) (a ++ b) := by
  refine ⟨by simp [h.1, k.1], fun j x hj => ?_⟩
  by_cases hlt : j < r.length
  · rw [List.getElem?_append_left hlt] at hj
    rw [List.getElem?_append_left (by rw [h.1]; exact hlt)]
    exact h.2 j x hj
  · rw [List.getElem?_append_right (by omega)] at hj
    rw [List.getElem?_append_right (by rw [h.1]; omega), h.1]
    exact k.2 _ x hj

theorem RdL.one {W : World} {x : AV} {v : Value} (h : RepC (prAll W) W x v) : RdL W [x] [v] := by
  refine ⟨rfl, fun j y hj => ?_⟩
  have hj0 : j = 0 := by have := (List.getElem?_eq_some_iff.1 hj).1; simp at this; omega
  subst hj0
  have : x = y := by simpa using hj
  subst this
  exact ⟨v, rfl, h⟩

section
variable {H : Type} {enc : TypeId × Value → H} {P : Program} {W : World}

/-- What a reading of type t with fuel n is. -/
def Rd (enc : TypeId × Value → H) (P : Program) (W : World) (t : TypeId) (n : Nat) {α : Type} (ok : α → Prop) (row : α → List AV) : Prop :=
  ∀ cs x, DataW.trod enc P W 0 (fun _ => true) true n t cs = some x → ∃ a, ok a ∧ RdL W (row a) cs

theorem rd_int {t : TypeId} {k : IntKind} (n : Nat) (ht : P.underlying t = some (.int k)) : Rd enc P W t n (fun z : Int => (Lit.int k z).wf = true) (fun z => [.int k z]) := by
  intro cs x h
  obtain ⟨z, rfl, _, hw⟩ := DataW.trod_int ht h
  exact ⟨z, hw, .one (.int _ _)⟩
theorem rd_bool {t : TypeId} (n : Nat) (ht : P.underlying t = some .bool) : Rd enc P W t n (fun _ : Bool => True) (fun b => [.bool b]) := by
  intro cs x h
  obtain ⟨z, rfl, _⟩ := DataW.trod_bool ht h
  exact ⟨z, trivial, .one (.bool _)⟩
theorem rd_str {t : TypeId} (n : Nat) (ht : P.underlying t = some .string) : Rd enc P W t n (fun s : ByteArray => s.size ≤ maxLen) (fun s => [.str s]) := by
  intro cs x h
  obtain ⟨s, rfl, _, hs⟩ := DataW.trod_string ht h
  exact ⟨s, hs, .one (.str _)⟩

theorem choose_list {α : Type} {p : Nat → α → Prop} : ∀ (n : Nat), (∀ i, i < n → ∃ a, p i a) → ∃ l : List α, l.length = n ∧ ∀ (i : Nat) a, l[i]? = some a → p i a := by
  intro n
  induction n with
  | zero => intro _; exact ⟨[], rfl, by simp⟩
  | succ n ih =>
    intro h
    obtain ⟨l, hl, hp⟩ := ih fun i hi => h i (by omega)
    obtain ⟨a, ha⟩ := h n (by omega)
    refine ⟨l ++ [a], by simp [hl], fun i b hb => ?_⟩
    by_cases hi : i < n
    · rw [List.getElem?_append_left (by omega)] at hb; exact hp i b hb
    · have : i = n := by have := (List.getElem?_eq_some_iff.1 hb).1; simp at this; omega
      subst this
      rw [List.getElem?_append_right (by omega), hl] at hb
      have : a = b := by simpa using hb
      subst this
      exact ha

theorem rd_slice {α : Type} {ok : α → Prop} {row : α → List AV} {t e : TypeId} {k : Nat} (n : Nat) (ht : P.underlying t = some (.slice e)) (hk : P.cellsOf e = k) (hk0 : 0 < k) (hrow : ∀ a, (row a).length = k)
    (h : ∀ m, m < n → Rd enc P W e m ok row) : Rd enc P W t n (fun l : List α => l.length ≤ maxLen ∧ ∀ a ∈ l, ok a) (fun l => [.sl (l.map row)]) := by
  intro cs x hx
  rcases DataW.trod_slice ht hx with ⟨rfl, _⟩ | ⟨a, len, cap, elems, rest, m, rfl, rfl, _, _, hl, hm, hlen, hel, _⟩
  · exact ⟨[], ⟨by simp, by simp⟩, .one (.sl0 _ _ (by simp [maxLen]))⟩
  · obtain ⟨l, hll, hlp⟩ := choose_list (p := fun i b => ok b ∧ ∃ cs', W.cells? 0 (a.add (i * k)) k = some cs' ∧ RdL W (row b) cs') len (fun i hi => by
      have h1 := hel i hi
      rw [List.getElem?_eq_getElem (by omega), hk] at h1
      obtain ⟨cs', h2, h3⟩ := Option.bind_eq_some_iff.1 h1
      obtain ⟨b, hb, hr⟩ := h m (by omega) _ _ h3
      exact ⟨b, hb, cs', h2, hr⟩)
    refine ⟨l, ⟨by omega, fun b hb => ?_⟩, .one ?_⟩
    · obtain ⟨i, hi⟩ := List.getElem?_of_mem hb
      exact (hlp i b hi).1
    · by_cases h0 : len = 0
      · have hl0 : l = [] := List.eq_nil_of_length_eq_zero (by omega)
        subst hl0
        subst h0
        exact .sl0 _ _ hm
      · -- the address is a plain one
        have hcell : ∀ (i : Nat) (b : α) (j : Nat) (x : AV), l[i]? = some b → (row b)[j]? = some x → ∃ u, W.cell? ((a.add (i * k)).add j) = some u ∧ RepC (prAll W) W x u := by
          intro i b j x hi hj
          obtain ⟨_, cs', h2, h3⟩ := hlp i b hi
          obtain ⟨u, hu, hrep⟩ := h3.2 j x hj
          obtain ⟨_, _, h4⟩ := World.cells?_some h2
          have hjk : j < k := by have := (List.getElem?_eq_some_iff.1 hj).1; rw [hrow] at this; exact this
          exact ⟨u, (h4 j hjk).trans hu, hrep⟩
        have hspot : a.spot = none := by
          obtain ⟨b, hb⟩ : ∃ b, l[0]? = some b := ⟨l[0]'(by omega), List.getElem?_eq_getElem _⟩
          obtain ⟨x, hx⟩ : ∃ x, (row b)[0]? = some x := ⟨(row b)[0]'(by rw [hrow]; omega), List.getElem?_eq_getElem _⟩
          obtain ⟨u, hu, _⟩ := hcell 0 b 0 x hb hx
          cases hsp : a.spot with
          | none => rfl
          | some s =>
            have he : (a.add (0 * k)).add 0 = a := by simp [Addr.add]
            rw [he] at hu
            unfold World.cell? at hu
            split at hu
            · simp [hsp] at hu
            · cases hu
        obtain ⟨b, o, sp⟩ := a
        simp only at hspot
        subst hspot
        have hadd : ∀ i j, ((⟨b, o, none⟩ : Addr).add (i * k)).add j = ⟨b, o + (i * k + j), none⟩ := by
          intro i j
          rw [Addr.add_lit, Addr.add_lit, Nat.add_assoc]
        have key := RepC.sl (Pr := prAll W) (w := W) (l.map row) b o cap k (fun i j => (W.cell? ⟨b, o + (i * k + j), none⟩).getD undef) (by simp; omega) hm (by
          intro r hr
          obtain ⟨y, _, rfl⟩ := List.mem_map.1 hr
          exact hrow y) (fun i r j x hi hj => by
            simp only [List.getElem?_map, Option.map_eq_some_iff] at hi
            obtain ⟨y, hy, rfl⟩ := hi
            obtain ⟨u, hu, _⟩ := hcell i y j x hy hj
            rw [hadd] at hu
            exact ⟨⟨u, hu⟩, by rw [hu]; rfl⟩) (fun i r j x hi hj => by
            simp only [List.getElem?_map, Option.map_eq_some_iff] at hi
            obtain ⟨y, hy, rfl⟩ := hi
            obtain ⟨u, hu, hrep⟩ := hcell i y j x hy hj
            rw [hadd] at hu
            rw [hu]
            exact hrep)
        rw [List.length_map, hll] at key
        exact key

theorem rd_struct1 {α : Type} {ok : α → Prop} {row : α → List AV} {t : TypeId} {f0 : Field} (n : Nat) (ht : P.underlying t = some (.struct #[f0])) (ho : f0.offset = 0) (hc : P.cellsOf t = P.cellsOf f0.type)
    (h : ∀ m, m < n → Rd enc P W f0.type m ok row) : Rd enc P W t n ok row := by
  intro cs x hx
  obtain ⟨xs, m, rfl, _, hl, hxs, hf⟩ := DataW.trod_struct ht hx
  have h0 := hf 0 f0 rfl
  rw [List.getElem?_eq_getElem (by rw [hxs]; simp), ho, List.drop_zero, ← hc, ← hl, List.take_length] at h0
  exact h m (by omega) _ _ h0

theorem rd_struct3 {α β γ : Type} {oa : α → Prop} {ra : α → List AV} {ob : β → Prop} {rb : β → List AV} {oc : γ → Prop} {rc : γ → List AV} {t : TypeId} {f0 f1 f2 : Field} (n : Nat)
    (ht : P.underlying t = some (.struct #[f0, f1, f2])) (h0 : f0.offset = 0) (h1 : f1.offset = P.cellsOf f0.type) (h2 : f2.offset = P.cellsOf f0.type + P.cellsOf f1.type)
    (hc : P.cellsOf t = P.cellsOf f0.type + P.cellsOf f1.type + P.cellsOf f2.type)
    (ka : ∀ m, m < n → Rd enc P W f0.type m oa ra) (kb : ∀ m, m < n → Rd enc P W f1.type m ob rb) (kc : ∀ m, m < n → Rd enc P W f2.type m oc rc) :
    Rd enc P W t n (fun x : α × β × γ => oa x.1 ∧ ob x.2.1 ∧ oc x.2.2) (fun x => ra x.1 ++ (rb x.2.1 ++ rc x.2.2)) := by
  intro cs x hx
  obtain ⟨xs, m, rfl, _, hl, hxs, hf⟩ := DataW.trod_struct ht hx
  have g0 := hf 0 f0 rfl
  have g1 := hf 1 f1 rfl
  have g2 := hf 2 f2 rfl
  rw [List.getElem?_eq_getElem (by rw [hxs]; simp)] at g0 g1 g2
  obtain ⟨a, pa, qa⟩ := ka m (by omega) _ _ g0
  obtain ⟨b, pb, qb⟩ := kb m (by omega) _ _ g1
  obtain ⟨c, pc, qc⟩ := kc m (by omega) _ _ g2
  refine ⟨(a, b, c), ⟨pa, pb, pc⟩, ?_⟩
  have e : cs = (cs.drop f0.offset).take (P.cellsOf f0.type) ++ ((cs.drop f1.offset).take (P.cellsOf f1.type) ++ (cs.drop f2.offset).take (P.cellsOf f2.type)) := by
    rw [h0, h1, h2, List.drop_zero]
    have e2 : (cs.drop (P.cellsOf f0.type + P.cellsOf f1.type)).take (P.cellsOf f2.type) = cs.drop (P.cellsOf f0.type + P.cellsOf f1.type) := List.take_of_length_le (by rw [List.length_drop]; omega)
    rw [e2, ← List.drop_drop, List.take_append_drop, List.take_append_drop]
  rw [e]
  exact qa.append (qb.append qc)
end

/-! ### The row -/
theorem memOk_start (W : World) : MemOk (cctx ⟨obsOf [], fun _ => none, prAll W, W⟩ 0) ⟨obsOf [], fun _ => none, prAll W, W⟩ := by
  have hn : ∀ r, obsOf [] r = none := fun r => by cases r <;> simp [obsOf]
  refine ⟨fun r o h => ?_, fun r r' b h => ?_, fun r b h => ?_, fun b h => .inr h, fun b _ => rfl, Nat.le_refl _, rfl, rfl, rfl, fun b o h => h, Stab.refl _, fun b o h => .inl h⟩
  · rw [show (Mem.mk (obsOf []) (fun _ => none) (prAll W) W).obs r = none from hn r] at h; cases h
  · exact absurd (hn r) h
  · exact absurd (hn r) h

theorem law_below {W : World} {M' : Mem} (h : MemOk (cctx ⟨obsOf [], fun _ => none, prAll W, W⟩ 0) M') : RowKit.Below W.heap.size W M'.w :=
  ⟨h.os, h.tape, h.output, h.le, fun k hk => h.frame k (fun hO => by
    rcases hO with ⟨j, hj, _⟩ | hge
    · omega
    · have hge : W.heap.size ≤ k := hge
      omega)⟩

theorem below_keptBut {W W' : World} {may : MemPlace → Prop} (h : RowKit.Below W.heap.size W W') : W.keptBut W' may := by
  refine ⟨h.os, h.output, fun i hi => ?_⟩
  rw [h.block i hi]
  cases W.heap[i]? with
  | none => trivial
  | some o => cases o <;> simp

/-- A law that answers true, whatever it made: its row's post. -/
theorem post_true {H : Type} {enc : TypeId × Value → H} {P : Program} {fn : Func} {s : ChangeSpec} {apart fresh handsOn : Bool} {W W' : World} {args : Array Value} {ds gs : List (DataW H)} {before : List MemPlace} {bt : TypeId}
    (hW : DataW.Whole enc P fn.params.toList s.vars apart W args.toList ds gs before) (hs : s.vars = []) (hfn : s.fn H (ds ++ gs) = { results := [.lit (.bool true)], args := ds })
    (hrt : fn.resultTypes = #[bt]) (hbt : P.underlying bt = some .bool) (hl : laidOutB P = true) (hrec : ∀ t ∈ fn.params.toList, P.readableRec t = true ∧ t < P.types.size) (hb : RowKit.Below W.heap.size W W') :
    s.post enc P fn apart fresh handsOn false W args (.bool true) W' := by
  have hlt := hW.lt
  have hW' := hW
  obtain ⟨p, q, hA, hV, rfl, _, _⟩ := hW'
  rw [hs] at hV
  obtain ⟨rfl, rfl⟩ := trodVars_none hV
  have stay : ∀ {ts : List TypeId} {vs : List Value} {ds : List (DataW H)} {ps : List MemPlace}, (∀ t ∈ ts, P.readableRec t = true ∧ t < P.types.size) → DataW.TrodAll enc P W 0 (fun _ => true) true ts vs ds ps → (∀ x ∈ ps, x.block < W.heap.size) →
      DataW.TrodAll enc P W' 0 (fun b => decide (b < W.heap.size)) true ts vs ds ps := by
    intro ts
    induction ts with
    | nil =>
      intro vs ds ps _ h _
      obtain ⟨rfl, rfl, rfl⟩ := trodAll_nil h
      exact trodAll_mk0
    | cons t ts ih =>
      intro vs ds ps hr h hp
      obtain ⟨v, vs', d, ds', a, b, rfl, rfl, rfl, h1, h2⟩ := trodAll_cons h
      obtain ⟨r1, r2⟩ := hr t (List.mem_cons_self ..)
      exact ⟨a, b, RowKit.Below.trod hl r1 r2 h1 hb (fun x hx => hp x (List.mem_append_left _ hx)), ih (fun u hu => hr u (List.mem_cons_of_mem _ hu)) h2 (fun x hx => hp x (List.mem_append_right _ hx)), rfl⟩
  have hA' := stay hrec hA (fun x hx => hlt x (List.mem_append_left _ hx))
  refine ⟨ds, [], p ++ [], [], p, [], hW, ?_, ?_, ?_, below_keptBut hb, fun h => by cases h⟩
  · rw [hfn, hrt]
    exact ⟨[], [], ⟨1, by simp [DataW.trod, hbt, Value.cells]⟩, trodAll_mk0, rfl⟩
  · rw [hfn]; exact hA'
  · rw [hfn, hs]; rfl

theorem arg_sl {P : Program} {W : World} {t e : TypeId} {v : Value} {x : AV} (ht : P.underlying t = some (.slice e)) {base : Nat} (hv : Value.okWide P W .any base t v) (h : RdL W [x] v.cells.toList) {M : Mem} (hp : M.Pr = prAll W) (hw : M.w = W) : RepA M x v := by
  obtain ⟨hl, hg⟩ := h
  obtain ⟨u, hu, hr⟩ := hg 0 x rfl
  have hc : v.cells = #[v] := by
    unfold Value.okWide at hv
    rw [ht] at hv
    cases v with
    | agg cs => simp [Cell.okWide, Cell.ok, ht] at hv
    | _ => rfl
  rw [hc] at hu
  have : v = u := by simpa using hu
  subst this
  rw [← hp, ← hw] at hr
  exact .of hr.toS

theorem arg_agg {P : Program} {W : World} {t : TypeId} {fs : Array Field} {v : Value} {row : List AV} (ht : P.underlying t = some (.struct fs)) {base : Nat} (hv : Value.okWide P W .any base t v) (h : RdL W row v.cells.toList) {M : Mem} (hp : M.Pr = prAll W) (hw : M.w = W) :
    RepA M (.agg row) v := by
  unfold Value.okWide at hv
  rw [ht] at hv
  obtain ⟨cs, rfl, _, _⟩ := hv
  obtain ⟨hl, hg⟩ := h
  refine ⟨cs, rfl, by simpa [Value.cells] using hl, fun j x hj => ?_⟩
  obtain ⟨u, hu, hr⟩ := hg j x hj
  rw [← hp, ← hw] at hr
  have h1 : cs[j]? = some u := by simpa [Value.cells] using hu
  rw [Array.getD_eq_getD_getElem?, h1]
  exact hr.toS
end Go.Sim
