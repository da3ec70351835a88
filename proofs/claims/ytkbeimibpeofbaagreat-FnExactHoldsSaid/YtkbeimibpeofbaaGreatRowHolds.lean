/- Whatever the signature, the tables and the clause, laws.FnExactHolds returns true (the program's Holds returns what the reference's returns) and its arguments read as they did. Conditions: none but the given row's own. -/
import Derived.Test.YtkbeimibpeofbaaGreatRows
import Derived.WalkKit
import Derived.ProofKit
import Derived.OpenShut
import Derived.Test.YtkbeimibpeofbaaGreatRead
import Derived.Test.YtkbeimibpeofbaaGreatLibP
import Derived.Test.YtkbeimibpeofbaaGreatFnN
namespace Go.Proofs.YtkbeimibpeofbaaGreat.FnExactHolds
open Go Go.Sim Go.Braid Go.ChangeShapes Go.WideShapes Go.ChangeAt Go.RowKit Go.Proofs.Tryz

theorem own : ownKnob Tryz.prog.godebug = none := by kernel_rfl

set_option maxRecDepth 100000 in
theorem walk {H : Type} {enc : TypeId × Value → H} {W : World} {v0 v1 v2 : Value} {d0 d1 d2 : DataW H} {p0 p1 p2 : List MemPlace}
    (h0 : DataW.Trod enc prog W 0 (fun _ => true) true 52 v0 d0 p0) (h1 : DataW.Trod enc prog W 0 (fun _ => true) true 53 v1 d1 p1) (h2 : DataW.Trod enc prog W 0 (fun _ => true) true 56 v2 d2 p2)
    {base : Nat} (k0 : Value.okWide prog W .any base 52 v0) (k1 : Value.okWide prog W .any base 53 v1) (k2 : Value.okWide prog W .any base 56 v2) :
    Calls prog 5 #[v0, v1, v2] W fun e W' => e = .returned (.bool true) ∧ Below W.heap.size W W' := by
  obtain ⟨n0, h0⟩ := h0
  obtain ⟨n1, h1⟩ := h1
  obtain ⟨n2, h2⟩ := h2
  obtain ⟨s, ⟨hs1, hs2⟩, r0⟩ := rd_sig n0 _ _ h0
  obtain ⟨ts, ⟨ht1, ht2⟩, r1⟩ := rd_struct1 n1 underlying53 rfl (by kernel_rfl) (fun m _ => rd_intss m) _ _ h1
  obtain ⟨c, ⟨hc1, hc2⟩, r2⟩ := rd_struct1 n2 underlying56 rfl (by kernel_rfl) (fun m _ => rd_lits m) _ _ h2
  have hd := EV_sound cfg_ok (ev_FnExactHolds s ts c hs1 hs2 ht1 ht2 hc1 hc2)
  have hrun := hd.run ⟨obsOf [], fun _ => none, prAll W, W⟩ [v0, v1, v2] rfl (memOk_start W) rfl (fun j x v hj hv => by
    match j with
    | 0 =>
      obtain rfl := Option.some.inj hj
      obtain rfl := Option.some.inj hv
      exact arg_sl underlying52 k0 r0 rfl rfl
    | 1 =>
      obtain rfl := Option.some.inj hj
      obtain rfl := Option.some.inj hv
      exact arg_agg underlying53 k1 r1 rfl rfl
    | 2 =>
      obtain rfl := Option.some.inj hj
      obtain rfl := Option.some.inj hv
      exact arg_agg underlying56 k2 r2 rfl rfl
    | j + 3 => cases hj)
  refine hrun.mono ?_
  rintro e w' ⟨v, M', rfl, rfl, _, hok, hv⟩
  have hv : v = .bool true := hv
  subst hv
  exact ⟨rfl, law_below hok⟩

set_option maxRecDepth 100000 in
theorem lifted (os : Os) (started : os.Started) (H : Type) (enc : TypeId × Value → H) :
    ReturnsInHanded {} Tryz.checked os 5 .any (Rows.fnExactHoldsSpec.pre6 enc Tryz.prog Tryz.f5 Rows.fnExactHoldsRow.domain false) (Rows.fnExactHoldsSpec.post enc Tryz.prog Tryz.f5 false true false false) := by
  refine returnsInHanded_of_change (C := Tryz.checked) own started (by kernel_rfl) Tryz.func5
    (ChangeSpec.witness6 (enc := enc) (C := Tryz.checked) false ⟨#[], #[.slice none 0 0, .agg #[.slice none 0 0], .agg #[.slice none 0 0]], []⟩ 8 (by kernel_rfl) (by kernel_rfl) (by kernel_rfl) (by kernel_rfl)) ?_
  intro W base args ds gs before hval0 hW hcnd _
  have hval : ∀ (j : Nat) t v, Tryz.f5.params[j]? = some t → args[j]? = some v → Value.okWide Tryz.prog W .any base t v := hval0
  have hW' := hW
  obtain ⟨p, q, hA0, hV, rfl, hfz, hnd⟩ := hW
  have hA : DataW.TrodAll enc Tryz.prog W 0 (fun _ => true) true Tryz.f5.params.toList args.toList ds p := hA0
  rw [Tryz.params5] at hA hval
  obtain ⟨v0, vs0, d0, ds0, p0, q0, hargs, rfl, rfl, h0, r0⟩ := trodAll_cons hA
  obtain ⟨v1, vs1, d1, ds1, p1, q1, rfl, rfl, rfl, h1, r1⟩ := trodAll_cons r0
  obtain ⟨v2, vs2, d2, ds2, p2, q2, rfl, rfl, rfl, h2, r2⟩ := trodAll_cons r1
  obtain ⟨rfl, rfl, rfl⟩ := trodAll_nil r2
  obtain rfl : args = #[v0, v1, v2] := by cases args; simp_all
  obtain ⟨rfl, rfl⟩ := trodVars_none hV
  refine (walk h0 h1 h2 (hval 0 _ v0 rfl rfl) (hval 1 _ v1 rfl rfl) (hval 2 _ v2 rfl rfl)).mono fun e W' ⟨he, hb⟩ => ?_
  exact ⟨_, he, post_true hW' rfl rfl (bt := 4) (by kernel_rfl) underlying4 (by kernel_rfl) (by
    intro t ht
    have ht : t ∈ Tryz.f5.params.toList := ht
    rw [Tryz.params5] at ht
    simp only [List.mem_cons, List.not_mem_nil, or_false] at ht
    rcases ht with rfl | rfl | rfl <;> exact ⟨by kernel_rfl, of_decide_eq_true (by kernel_rfl)⟩) hb⟩

theorem over : Rows.fnExactHoldsRow.holds Tryz.pinned (OpenSpec.ofChange Rows.fnExactHoldsSpec) :=
  OpenClaim.holds_of_wide 5 Tryz.f5 rfl rfl rfl rfl rfl rfl rfl ⟨rfl, rfl, rfl, rfl, rfl⟩ rfl rfl rfl rfl rfl (by kernel_rfl) Tryz.func5 (by kernel_rfl)
    (of_decide_eq_true (by kernel_rfl)) (by unfold Func.isWrapper; first | (rw [if_pos (by decide +kernel)]; kernel_rfl) | (rw [if_neg (by decide +kernel)]; exact ⟨rfl, rfl⟩))
    (fun os started H enc _ => lifted os started H enc)

theorem proved : Rows.FnExactHoldsSaid := over
end Go.Proofs.YtkbeimibpeofbaaGreat.FnExactHolds
