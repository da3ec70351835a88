/- Whatever the signature, the world and the clause, laws.FnExactTrue returns true (the program's True returns what the reference's returns) and its arguments read as they did. Conditions: none but the given row's own. -/
import Derived.Test.YtkbeimibpeofbaaGreatRows
import Derived.WalkKit
import Derived.ProofKit
import Derived.OpenShut
import Derived.Test.YtkbeimibpeofbaaGreatRead
import Derived.Test.YtkbeimibpeofbaaGreatLibP
import Derived.Test.YtkbeimibpeofbaaGreatFnQ
namespace Go.Proofs.YtkbeimibpeofbaaGreat.FnExactTrue
open Go Go.Sim Go.Braid Go.ChangeShapes Go.WideShapes Go.ChangeAt Go.RowKit Go.Proofs.Tryz

theorem own : ownKnob Tryz.prog.godebug = none := by kernel_rfl

theorem rd_struct2 {H : Type} {enc : TypeId × Value → H} {P : Program} {W : World} {α β : Type} {oa : α → Prop} {ra : α → List AV} {ob : β → Prop} {rb : β → List AV} {t : TypeId} {f0 f1 : Field} (n : Nat)
    (ht : P.underlying t = some (.struct #[f0, f1])) (h0 : f0.offset = 0) (h1 : f1.offset = P.cellsOf f0.type) (hc : P.cellsOf t = P.cellsOf f0.type + P.cellsOf f1.type)
    (ka : ∀ m, m < n → Rd enc P W f0.type m oa ra) (kb : ∀ m, m < n → Rd enc P W f1.type m ob rb) :
    Rd enc P W t n (fun x : α × β => oa x.1 ∧ ob x.2) (fun x => ra x.1 ++ rb x.2) := by
  intro cs x hx
  obtain ⟨xs, m, rfl, _, hl, hxs, hf⟩ := DataW.trod_struct ht hx
  have g0 := hf 0 f0 rfl
  have g1 := hf 1 f1 rfl
  rw [List.getElem?_eq_getElem (by rw [hxs]; simp)] at g0 g1
  obtain ⟨a, pa, qa⟩ := ka m (by omega) _ _ g0
  obtain ⟨b, pb, qb⟩ := kb m (by omega) _ _ g1
  refine ⟨(a, b), ⟨pa, pb⟩, ?_⟩
  have e : cs = (cs.drop f0.offset).take (P.cellsOf f0.type) ++ (cs.drop f1.offset).take (P.cellsOf f1.type) := by
    rw [h0, h1, List.drop_zero]
    have e2 : (cs.drop (P.cellsOf f0.type)).take (P.cellsOf f1.type) = cs.drop (P.cellsOf f0.type) := List.take_of_length_le (by rw [List.length_drop]; omega)
    rw [e2, List.take_append_drop]
  rw [e]
  exact qa.append qb

theorem rd_world {H : Type} {enc : TypeId × Value → H} {W : World} (n : Nat) : Rd enc prog W 76 n (fun w : Wd => MaxL w.tables.length ∧ ∀ t ∈ w.tables, MaxL t.length) cellsW := by
  intro cs x hx
  obtain ⟨⟨a, b⟩, ⟨_, h1⟩, h3⟩ := rd_struct2 n underlying76 rfl (by kernel_rfl) (by kernel_rfl) (fun m _ => rd_int m underlying3) (fun m _ => rd_intss m) cs x hx
  exact ⟨⟨a, b⟩, h1, h3⟩

set_option maxRecDepth 100000 in
theorem walk {H : Type} {enc : TypeId × Value → H} {W : World} {v0 v1 v2 : Value} {d0 d1 d2 : DataW H} {p0 p1 p2 : List MemPlace}
    (h0 : DataW.Trod enc prog W 0 (fun _ => true) true 52 v0 d0 p0) (h1 : DataW.Trod enc prog W 0 (fun _ => true) true 76 v1 d1 p1) (h2 : DataW.Trod enc prog W 0 (fun _ => true) true 56 v2 d2 p2)
    {base : Nat} (k0 : Value.okWide prog W .any base 52 v0) (k1 : Value.okWide prog W .any base 76 v1) (k2 : Value.okWide prog W .any base 56 v2) :
    Calls prog 7 #[v0, v1, v2] W fun e W' => e = .returned (.bool true) ∧ Below W.heap.size W W' := by
  obtain ⟨n0, h0⟩ := h0
  obtain ⟨n1, h1⟩ := h1
  obtain ⟨n2, h2⟩ := h2
  obtain ⟨s, ⟨hs1, hs2⟩, r0⟩ := rd_sig n0 _ _ h0
  obtain ⟨w, ⟨ht1, ht2⟩, r1⟩ := rd_world n1 _ _ h1
  obtain ⟨c, ⟨hc1, hc2⟩, r2⟩ := rd_struct1 n2 underlying56 rfl (by kernel_rfl) (fun m _ => rd_lits m) _ _ h2
  have hd := EV_sound cfg_ok (ev_FnExactTrue s w c hs1 hs2 ht1 ht2 hc1 hc2)
  have hrun := hd.run ⟨obsOf [], fun _ => none, prAll W, W⟩ [v0, v1, v2] rfl (memOk_start W) rfl (fun j x v hj hv => by
    match j with
    | 0 =>
      obtain rfl := Option.some.inj hj
      obtain rfl := Option.some.inj hv
      exact arg_sl underlying52 k0 r0 rfl rfl
    | 1 =>
      obtain rfl := Option.some.inj hj
      obtain rfl := Option.some.inj hv
      exact arg_agg underlying76 k1 r1 rfl rfl
    | 2 =>
      obtain rfl := Option.some.inj hj
      obtain rfl := Option.some.inj hv
      exact arg_agg underlying56 k2 r2 rfl rfl
    | j + 3 => cases hj)
  refine hrun.mono ?_
  rintro e w' ⟨v, M', rfl, rfl, _, hok, hv⟩
  have hv : v = .bool true := hv
  subst hv
  exact ⟨rfl, law_below hok⟩

set_option maxRecDepth 100000 in
theorem lifted (os : Os) (started : os.Started) (H : Type) (enc : TypeId × Value → H) :
    ReturnsInHanded {} Tryz.checked os 7 .any (Rows.fnExactTrueSpec.pre6 enc Tryz.prog Tryz.f7 Rows.fnExactTrueRow.domain false) (Rows.fnExactTrueSpec.post enc Tryz.prog Tryz.f7 false true false false) := by
  refine returnsInHanded_of_change (C := Tryz.checked) own started (by kernel_rfl) Tryz.func7
    (ChangeSpec.witness6 (enc := enc) (C := Tryz.checked) false ⟨#[], #[.slice none 0 0, .agg #[.int .i64 0, .slice none 0 0], .agg #[.slice none 0 0]], []⟩ 8 (by kernel_rfl) (by kernel_rfl) (by kernel_rfl) (by kernel_rfl)) ?_
  intro W base args ds gs before hval0 hW hcnd _
  have hval : ∀ (j : Nat) t v, Tryz.f7.params[j]? = some t → args[j]? = some v → Value.okWide Tryz.prog W .any base t v := hval0
  have hW' := hW
  obtain ⟨p, q, hA0, hV, rfl, hfz, hnd⟩ := hW
  have hA : DataW.TrodAll enc Tryz.prog W 0 (fun _ => true) true Tryz.f7.params.toList args.toList ds p := hA0
  rw [Tryz.params7] at hA hval
  obtain ⟨v0, vs0, d0, ds0, p0, q0, hargs, rfl, rfl, h0, r0⟩ := trodAll_cons hA
  obtain ⟨v1, vs1, d1, ds1, p1, q1, rfl, rfl, rfl, h1, r1⟩ := trodAll_cons r0
  obtain ⟨v2, vs2, d2, ds2, p2, q2, rfl, rfl, rfl, h2, r2⟩ := trodAll_cons r1
  obtain ⟨rfl, rfl, rfl⟩ := trodAll_nil r2
  obtain rfl : args = #[v0, v1, v2] := by cases args; simp_all
  obtain ⟨rfl, rfl⟩ := trodVars_none hV
  refine (walk h0 h1 h2 (hval 0 _ v0 rfl rfl) (hval 1 _ v1 rfl rfl) (hval 2 _ v2 rfl rfl)).mono fun e W' ⟨he, hb⟩ => ?_
  exact ⟨_, he, post_true hW' rfl rfl (bt := 4) (by kernel_rfl) underlying4 (by kernel_rfl) (by
    intro t ht
    have ht : t ∈ Tryz.f7.params.toList := ht
    rw [Tryz.params7] at ht
    simp only [List.mem_cons, List.not_mem_nil, or_false] at ht
    rcases ht with rfl | rfl | rfl <;> exact ⟨by kernel_rfl, of_decide_eq_true (by kernel_rfl)⟩) hb⟩

theorem over : Rows.fnExactTrueRow.holds Tryz.pinned (OpenSpec.ofChange Rows.fnExactTrueSpec) :=
  OpenClaim.holds_of_wide 7 Tryz.f7 rfl rfl rfl rfl rfl rfl rfl ⟨rfl, rfl, rfl, rfl, rfl⟩ rfl rfl rfl rfl rfl (by kernel_rfl) Tryz.func7 (by kernel_rfl)
    (of_decide_eq_true (by kernel_rfl)) (by unfold Func.isWrapper; first | (rw [if_pos (by decide +kernel)]; kernel_rfl) | (rw [if_neg (by decide +kernel)]; exact ⟨rfl, rfl⟩))
    (fun os started H enc _ => lifted os started H enc)

theorem proved : Rows.FnExactTrueSaid := over
end Go.Proofs.YtkbeimibpeofbaaGreat.FnExactTrue
