/- What terms and clauses mean in larger worlds: the reference's way. -/
import Derived.Test.YtkbeimibpeofbaaGreatFnO
set_option linter.unusedSimpArgs false
set_option linter.unusedVariables false
namespace Go.Proofs.Tryz
open Go Go.Sim Go.Braid

section
variable {cfg : Cfg} {fi : Nat} {call : FuncId → List AV → List Ob → Option (AV × List Ob)} {env : List (Nat × AV)} {obs : List (Ref × Ob)} {dst : Option Nat}
theorem v_idx_frI {t e : TypeId} {eti : TI} {x y : Operand} {r : Ref} {m e' sz : Nat} {rows : List (List AV)} {k : IntKind} {i : Int} {row : List AV} (hi : rows[i.toNat]? = some row) (h0 : 0 ≤ i) (hE : elemT cfg.tab t = some (e, eti)) (hx : opA env x = .own r m)
    (ho : lookR obs r = some (.arr e' sz rows false)) (hy : opA env y = .int k i) (hl : row.length = eti.size) (hm : rows.length = m) : opV cfg fi call dst env obs (.indexAddr t x y) = some (.rp row 0, []) := by
  rw [← evAV_opA] at hx hy
  show stepV cfg fi call (.indexAddr t x y) dst env obs = _
  simp only [stepV, stepOp, hE, indexS, hy, hx, ho, hi, h0, hl, hm, decide_true, beq_self_eq_true, Bool.and_self, when, if_true, Option.map_some]
theorem v_len_own {c : Call} {x : Operand} {t e e' sz : Nat} {eti : TI} {r : Ref} {m : Nat} {rows : List (List AV)} {wr : Bool} (hm : rows.length = m) (hc : c.callee = .builtin .len) (ha : c.args.toList = [x]) (ht : c.argTypes.toList = [t])
    (hE : elemT cfg.tab t = some (e, eti)) (hx : opA env x = .own r m) (ho : lookR obs r = some (.arr e' sz rows wr)) : opV cfg fi call dst env obs (.call c) = some (.int .i64 rows.length, []) := by
  rw [← evAV_opA] at hx
  rw [← opV_eq]
  subst hm
  simp only [stepV, stepOp, hc, ha, ht, builtinS, hE, hx, rowsB, rowsOf, ho, decide_true, beq_self_eq_true, Bool.and_self, when, if_true, Option.map_some]
end

/-- A loop that counts down to 0. -/
theorem loop_down {ρ : Type} {step : St → Option (Ex × St)} {norm : St → St} {k : Ex → St → Option ρ} {β : Type} (inv : Int → β → St) (n : Nat) (I : Nat → β → Prop) (post : Nat → β → Option ρ) {st : St} {r : Option ρ} (z0 : Int) (b0 : β) (hr : r = post n b0)
    (h0 : norm st = inv z0 b0) (hz0 : z0 = (n : Int) - 1) (hI0 : I n b0)
    (round : ∀ i b, i ≤ n → I i b → (∀ st' z b', norm st' = inv z b' → 0 < i → z = ((i - 1 : Nat) : Int) - 1 → I (i - 1) b' → loopK (LOOP step norm st') k = post (i - 1) b') →
      loopK (LOOPN step norm (inv ((i : Int) - 1) b)) k = post i b) : loopK (LOOP step norm st) k = r := by
  subst hr
  refine head_of (by rw [h0, hz0]) ?_
  have key : ∀ (p : Nat × β), p.1 ≤ n ∧ I p.1 p.2 → loopK (LOOPN step norm (inv ((p.1 : Int) - 1) p.2)) k = post p.1 p.2 :=
    loop_ind (β := Nat × β) (fun p => inv ((p.1 : Int) - 1) p.2) (fun p => p.1 ≤ n ∧ I p.1 p.2) (fun p => p.1) (fun p => post p.1 p.2) fun p hp ih => by
      refine round p.1 p.2 hp.1 hp.2 fun st' z b' h1 h2 h3 h4 => ?_
      refine head_of (by rw [h1, h3]) ?_
      exact ih (p.1 - 1, b') ⟨by have := hp.1; show p.1 - 1 ≤ n; omega, h4⟩ (by show p.1 - 1 < p.1; omega)
  exact key (n, b0) ⟨Nat.le_refl _, hI0⟩

theorem tmod_neg {a size : Int} (h : 1 ≤ size) (h4 : size ≤ 4) : -4 < a.tmod size ∧ a.tmod size < 4 ∧ (a.tmod size < 0 → a.tmod size + size = a % size) ∧ (0 ≤ a.tmod size → a.tmod size = a % size) := by
  have e1 : size = 1 ∨ size = 2 ∨ size = 3 ∨ size = 4 := by omega
  by_cases h0 : 0 ≤ a
  · have e2 : a.tmod size = a % size := Int.tmod_eq_emod_of_nonneg h0
    rw [e2]
    rcases e1 with rfl | rfl | rfl | rfl <;> omega
  · have e2 : a.tmod size = -((-a) % size) := by
      rw [← Int.tmod_eq_emod_of_nonneg (show 0 ≤ -a by omega), Int.neg_tmod, Int.neg_neg]
    rw [e2]
    rcases e1 with rfl | rfl | rfl | rfl <;> omega

set_option maxHeartbeats 4000000 in
theorem ev_l24Means {s : List Sym} (hs : Small s.length) {w : Wd} (hw : worldB s w = true) (env : List Int) (he : Small env.length) : ∀ (t : Tm), Small (nodes t) → formB s t = true →
    EV prog cfg 147 [.sl (rowsS s), .agg (cellsW w), .agg (cellsT t), .sl (rowsI env)] [] = some (.int .i64 (meansT s w env t), []) := by
  have hsz : 1 ≤ w.size ∧ w.size ≤ 4 := by simp only [worldB, Bool.and_eq_true, decide_eq_true_eq] at hw; exact hw.1.1.2
  intro t
  induction t using Tm.ind with
  | h f v ks ihk =>
    intro ha hf
    generalize hA : Tm.mk f v ks = t at ha hf ⊢
    have hk : t.kids = ks := by rw [← hA]; rfl
    rw [← hk] at ihk
    have hkl := nodes_len t
    rw [meansT_eq]
    have hneg : t.f < 0 ↔ t.f = -1 := by
      by_cases e : t.f = -1
      · omega
      · have := (form_fn hf e).1; omega
    (refine EV_k rfl func147 (by rw [f147]) (by rw [f147]; rfl) (by rw [f147]; rfl) ?_; rw [ntmps147]; (conv => lhs; whnf))
    ((repeat (first | refine br_t ?_ | refine br_f ?_ | refine br_not ?_)); first | refine br_lt (fun h1 => ?_) (fun h1 => ?_) | refine br_le (fun h1 => ?_) (fun h1 => ?_) | refine br_eq (fun h1 => ?_) (fun h1 => ?_) | refine br_b (fun h1 => ?_) (fun h1 => ?_)) <;> (conv => lhs; whnf)
    · have h1 : t.f = -1 := hneg.1 h1
      obtain ⟨hv0, hv1, hv2⟩ := form_var hf h1
      rw [if_pos h1, varMeans]
      ((repeat (first | refine br_t ?_ | refine br_f ?_ | refine br_not ?_)); first | refine br_lt (fun h2 => ?_) (fun h2 => ?_) | refine br_le (fun h2 => ?_) (fun h2 => ?_) | refine br_eq (fun h2 => ?_) (fun h2 => ?_) | refine br_b (fun h2 => ?_) (fun h2 => ?_)) <;> (conv => lhs; whnf) <;> rw [rowsI_length] at h2
      · rw [if_pos h2]; rfl
      · rw [if_neg (by omega)]
        have hlt : t.v.toNat < env.length := by omega
        have hg : (rowsI env)[t.v.toNat]? = some [.int .i64 env[t.v.toNat]] := rowsI_get hlt
        have hne : w.size ≠ 0 := by omega
        obtain ⟨m1, m2, m3, m4⟩ := tmod_neg (a := env[t.v.toNat]) hsz.1 hsz.2
        have hgd : env.getD t.v.toNat 0 = env[t.v.toNat] := by rw [List.getD_eq_getElem?_getD, List.getElem?_eq_getElem hlt]; rfl
        (refine vuK_of (v_index_sl rfl rfl rfl hg hv0 rfl) ?_; (conv => lhs; whnf))
        refine vuK_of (v_rem rfl rfl hne) ?_
        (conv => lhs; whnf)
        ((repeat (first | refine br_t ?_ | refine br_f ?_ | refine br_not ?_)); first | refine br_lt (fun h3 => ?_) (fun h3 => ?_) | refine br_le (fun h3 => ?_) (fun h3 => ?_) | refine br_eq (fun h3 => ?_) (fun h3 => ?_) | refine br_b (fun h3 => ?_) (fun h3 => ?_)) <;> (conv => lhs; whnf)
        · refine res_int ?_
          rw [wrap_ok (by omega) (by omega), m3 h3, hgd]
        · refine res_int ?_
          rw [m4 (by omega), hgd]
    · have h1 : ¬ t.f = -1 := fun e => by omega
      obtain ⟨k1, k2, k3, k4, k5, k6⟩ := form_fn hf h1
      obtain ⟨_, g1, g2, g6, g3, g4, g5⟩ := world_at hw k1 k2
      have hall : ∀ k ∈ t.kids, 0 ≤ meansT s w env k ∧ meansT s w env k < w.size := fun k hk => means_range hw env _ (k6 _ hk)
      have hml : (meansL s w env t.kids).length = t.kids.length := by rw [meansL_map, List.length_map]
      have hmr : ∀ x ∈ meansL s w env t.kids, 0 ≤ x ∧ x < w.size := by rw [meansL_map]; intro x hx; obtain ⟨k, hk, rfl⟩ := List.mem_map.1 hx; exact hall k hk
      rw [if_neg h1]
      refine loop_for (β := List Int) (fun z b => ⟨[(0, .sl (rowsS s)), (3, .sl (rowsI env)), (5, .ptr (.loc 0 0) 0), (6, .ptr (.loc 0 1) 0), (10, .own (.loc 0 2) (rowsI b).length), (11, .int .i64 z)], [(.loc 0 0, .box (cellsW w)), (.loc 0 1, .box (cellsT t)), (.loc 0 2, .arr 3 1 (rowsI b) false)]⟩) t.kids.length
        (fun i b => b = (t.kids.take i).map (meansT s w env)) (fun _ _ => some (.int .i64 (if acAt s t.f = true then foldAc (tabAt w t.f) w.size (meansL s w env t.kids) else (tabAt w t.f).getD (placeO w.size (meansL s w env t.kids)).toNat 0), [])) [] rfl rfl (by simp) ?_
      intro i b hi hI ih
      refine round_of ?_
      (conv => lhs; whnf)
      ((repeat (first | refine br_t ?_ | refine br_f ?_ | refine br_not ?_)); first | refine br_lt (fun h5 => ?_) (fun h5 => ?_) | refine br_le (fun h5 => ?_) (fun h5 => ?_) | refine br_eq (fun h5 => ?_) (fun h5 => ?_) | refine br_b (fun h5 => ?_) (fun h5 => ?_)) <;> (conv => lhs; whnf) <;> rw [rowsT_length] at h5
      · have hlt : i < t.kids.length := by omega
        have hm : t.kids[i] ∈ t.kids := List.getElem_mem hlt
        have hn := nodes_kid hm
        have hbl : b.length = i := by rw [hI]; simp; omega
        (refine vuK_of (v_idx (rowsT_get hlt) rfl rfl rfl rfl) ?_; (conv => lhs; whnf))
        (refine vuK_of (v_call rfl rfl (ihk t.kids[i] hm (by omega) (k6 _ hm)) rfl rfl) ?_; (conv => lhs; whnf))
        (refine vuK_of (v_app_I (b ) ( [meansT s w env t.kids[i]] ) ( by simp only [List.length_cons, List.length_nil]; omega) rfl rfl rfl rfl rfl rfl rfl rfl rfl rfl rfl) ?_; (conv => lhs; whnf))
        exact ih _ _ (b ++ [meansT s w env t.kids[i]]) rfl (wrap_succ hlt (by omega)) hlt (by rw [hI, List.take_succ_eq_append_getElem hlt, List.map_append]; rfl)
      · have hb : b = meansL s w env t.kids := by rw [hI, meansL_map, List.take_of_length_le (by omega)]
        clear ih hI
        generalize meansL s w env t.kids = ml at hb hml hmr ⊢
        subst hb
        (refine vuK_of (v_call rfl rfl (ev_spec_Blind s t.f hs) rfl rfl) ?_; (conv => lhs; whnf))
        ((repeat (first | refine br_t ?_ | refine br_f ?_ | refine br_not ?_)); first | refine br_lt (fun h2 => ?_) (fun h2 => ?_) | refine br_le (fun h2 => ?_) (fun h2 => ?_) | refine br_eq (fun h2 => ?_) (fun h2 => ?_) | refine br_b (fun h2 => ?_) (fun h2 => ?_)) <;> (conv => lhs; whnf)
        · have h2k := k4 h2
          have hsq : Sq w.size (tabAt w t.f) := world_sq hw k1 k2 h2
          rw [if_pos h2]
          generalize tabAt w t.f = tb at hsq g3
          have h0 : 0 < b.length := by omega
          have hg0 : (rowsI b)[0]? = some [.int .i64 b[0]] := rowsI_get h0
          refine vuK_of (v_idx_fr (i := 0) hg0 rfl rfl rfl rfl rfl rfl) ?_
          (conv => lhs; whnf)
          have hcons : b = b[0] :: b.drop 1 := by rw [← List.drop_eq_getElem_cons h0, List.drop_zero]
          rw [show foldAc tb w.size b = (b.drop 1).foldl (fun a c => ofT tb w.size a c) b[0] by
            conv => lhs; rw [hcons]
            rw [foldAc]]
          refine loop_at (β := Int) (fun z x => ⟨[(5, .ptr (.loc 0 0) 0), (6, .ptr (.loc 0 1) 0), (10, .own (.loc 0 2) (rowsI b).length), (12, .int .i64 x), (13, .int .i64 z)], [(.loc 0 0, .box (cellsW w)), (.loc 0 1, .box (cellsT t)), (.loc 0 2, .arr 3 1 (rowsI b) false)]⟩) 1 b.length
            (fun _ x => 0 ≤ x ∧ x < w.size) (fun i x => some (.int .i64 ((b.drop i).foldl (fun a c => ofT tb w.size a c) x), [])) b[0] rfl rfl (by omega) (hmr _ (List.getElem_mem h0)) ?_
          intro i x hi1 hi hI ih
          refine round_of ?_
          (conv => lhs; whnf)
          refine vuK_of (v_len_own rfl rfl rfl rfl rfl rfl rfl) ?_
          (conv => lhs; whnf)
          ((repeat (first | refine br_t ?_ | refine br_f ?_ | refine br_not ?_)); first | refine br_lt (fun h6 => ?_) (fun h6 => ?_) | refine br_le (fun h6 => ?_) (fun h6 => ?_) | refine br_eq (fun h6 => ?_) (fun h6 => ?_) | refine br_b (fun h6 => ?_) (fun h6 => ?_)) <;> (conv => lhs; whnf) <;> rw [rowsI_length] at h6
          · have hlt : i < b.length := by omega
            have hr := hmr _ (List.getElem_mem hlt)
            have hog := ofT_get hsq hI hr
            rw [List.drop_eq_getElem_cons hlt, List.foldl_cons]
            refine vuK_of (v_idx_fr (i := i) (rowsI_get hlt) rfl rfl rfl rfl rfl rfl) ?_
            (conv => lhs; whnf)
            (refine vuK_of (v_call rfl rfl (ev_l24Two w t.f x b[i] tb k1 g3 hsq hI hr) rfl rfl) ?_; (conv => lhs; whnf))
            exact ih _ _ (ofT tb w.size x b[i]) rfl (wrap_succ hlt (by omega)) hlt hog.2
          · rw [List.drop_eq_nil_of_le (by omega)]; rfl
        · have h2k := k5 h2
          rw [if_neg (by rw [h2]; simp)]
          have hft : (rowsII w.tables)[t.f.toNat]? = some [.sl (rowsI (tabAt w t.f))] := by rw [rowsII, List.getElem?_map, g3]; rfl
          generalize tabAt w t.f = tb at g4 hft
          have hbl3 : b.length ≤ 3 := by omega
          have hp := placeO_range hsz.1 b hmr
          have hlen : (tb.length : Int) = w.size ^ b.length := by rw [g4]; congr 1; omega
          refine vuK_of (v_len_own rfl rfl rfl rfl rfl rfl rfl) ?_
          (conv => lhs; whnf)
          refine loop_down (β := Int) (fun z x => ⟨[(5, .ptr (.loc 0 0) 0), (6, .ptr (.loc 0 1) 0), (10, .own (.loc 0 2) (rowsI b).length), (14, .int .i64 x), (15, .int .i64 z)], [(.loc 0 0, .box (cellsW w)), (.loc 0 1, .box (cellsT t)), (.loc 0 2, .arr 3 1 (rowsI b) false)]⟩) b.length
            (fun i x => x = placeO w.size (b.drop i)) (fun _ _ => some (.int .i64 (tb.getD (placeO w.size b).toNat 0), [])) (IntKind.wrap .i64 (((rowsI b).length : Int) - 1)) 0 rfl rfl (by rw [rowsI_length, wrap_ok (by omega) (by omega)]) (by rw [List.drop_length]; rfl) ?_
          intro i x hi hI ih
          refine round_of ?_
          (conv => lhs; whnf)
          ((repeat (first | refine br_t ?_ | refine br_f ?_ | refine br_not ?_)); first | refine br_lt (fun h6 => ?_) (fun h6 => ?_) | refine br_le (fun h6 => ?_) (fun h6 => ?_) | refine br_eq (fun h6 => ?_) (fun h6 => ?_) | refine br_b (fun h6 => ?_) (fun h6 => ?_)) <;> (conv => lhs; whnf)
          · have h6 : 0 < i := by omega
            have hlt : i - 1 < b.length := by omega
            have hz : ((i : Int) - 1).toNat = i - 1 := by omega
            have hg : (rowsI b)[((i : Int) - 1).toNat]? = some [.int .i64 b[i - 1]] := by rw [hz]; exact rowsI_get hlt
            have hr := hmr _ (List.getElem_mem hlt)
            have hq := placeO_range hsz.1 (b.drop i) (fun x hx => hmr x (List.mem_of_mem_drop hx))
            have hpw := pow_small hsz.1 hsz.2 (i := (b.drop i).length) (by rw [List.length_drop]; omega)
            have hmul : 0 ≤ x * w.size ∧ x * w.size ≤ 1024 := by
              have hxr : 0 ≤ x ∧ x ≤ 256 := by rw [hI]; omega
              have e1 : w.size = 1 ∨ w.size = 2 ∨ w.size = 3 ∨ w.size = 4 := by omega
              rcases e1 with e | e | e | e <;> rw [e] <;> omega
            refine vuK_of (v_idx_frI hg (by omega) rfl rfl rfl rfl rfl rfl) ?_
            (conv => lhs; whnf)
            refine ih _ _ (IntKind.wrap .i64 (IntKind.wrap .i64 (x * w.size) + b[i - 1])) rfl h6 ?_ ?_
            · rw [wrap_ok (by omega) (by omega)]; omega
            · rw [wrap_ok (z := x * w.size) (by omega) (by omega), wrap_ok (by omega) (by omega)]
              rw [List.drop_eq_getElem_cons hlt, placeO, show i - 1 + 1 = i by omega, ← hI, Int.mul_comm x w.size]; omega
          · have hi0 : i = 0 := by omega
            subst hi0
            rw [List.drop_zero] at hI
            have hlt : (placeO w.size b).toNat < tb.length := by omega
            have hg : (rowsI tb)[x.toNat]? = some [.int .i64 (tb.getD (placeO w.size b).toNat 0)] := by
              rw [hI, rowsI_get hlt, List.getD_eq_getElem?_getD, List.getElem?_eq_getElem hlt]; rfl
            have hx0 : 0 ≤ x := by rw [hI]; exact hp.1
            (refine vuK_of (v_index_sl rfl rfl rfl hft k1 rfl) ?_; (conv => lhs; whnf))
            (refine vuK_of (v_index_sl rfl rfl rfl hg hx0 rfl) ?_; (conv => lhs; whnf))
            rfl

set_option maxHeartbeats 2000000 in
theorem ev_l24Some {s : List Sym} (hs : Small s.length) {w : Wd} (hw : worldB s w = true) (env : List Int) (he : Small env.length) (c : List Lt) (hc : ClSmall c) (hg : Good s c) :
    EV prog cfg 122 [.sl (rowsS s), .agg (cellsW w), .agg [.sl (rowsL c)], .sl (rowsI env)] [] = some (.bool (someB s w env c), []) := by
  have hcl := hc.len
  (refine EV_k rfl func122 (by rw [f122]) (by rw [f122]; rfl) (by rw [f122]; rfl) ?_; rw [ntmps122]; (conv => lhs; whnf))
  refine loop_nat (fun z => ⟨[(0, .sl (rowsS s)), (3, .sl (rowsI env)), (5, .ptr (.loc 0 0) 0), (6, .ptr (.loc 0 1) 0), (9, .int .i64 z)], [(.loc 0 0, .box (cellsW w)), (.loc 0 1, .box [.sl (rowsL c)])]⟩) c.length
    (fun i => some (.bool ((c.drop i).any (soB s w env)), [])) rfl rfl ?_
  intro i hi ih
  refine round_of ?_
  (conv => lhs; whnf)
  ((repeat (first | refine br_t ?_ | refine br_f ?_ | refine br_not ?_)); first | refine br_lt (fun h5 => ?_) (fun h5 => ?_) | refine br_le (fun h5 => ?_) (fun h5 => ?_) | refine br_eq (fun h5 => ?_) (fun h5 => ?_) | refine br_b (fun h5 => ?_) (fun h5 => ?_)) <;> (conv => lhs; whnf) <;> rw [rowsL_length] at h5
  · have hlt : i < c.length := by omega
    have hm : c[i] ∈ c := List.getElem_mem hlt
    rw [List.drop_eq_getElem_cons hlt, List.any_cons]
    (refine vuK_of (v_idx (rowsL_get hlt) rfl rfl rfl rfl) ?_; (conv => lhs; whnf))
    (refine vuK_of (v_call rfl rfl (ev_l24Means hs hw env he c[i].l (hc.lit hm).1 (hg _ hm).1) rfl rfl) ?_; (conv => lhs; whnf))
    (refine vuK_of (v_idx (rowsL_get hlt) rfl rfl rfl rfl) ?_; (conv => lhs; whnf))
    (refine vuK_of (v_call rfl rfl (ev_l24Means hs hw env he c[i].r (hc.lit hm).2 (hg _ hm).2) rfl rfl) ?_; (conv => lhs; whnf))
    (refine vuK_of (v_idx (rowsL_get hlt) rfl rfl rfl rfl) ?_; (conv => lhs; whnf))
    have hso : (eqI (meansT s w env c[i].l) (meansT s w env c[i].r) == c[i].pos) = soB s w env c[i] := by rw [soB, eqI_eq]
    ((repeat (first | refine br_t ?_ | refine br_f ?_ | refine br_not ?_)); first | refine br_lt (fun h6 => ?_) (fun h6 => ?_) | refine br_le (fun h6 => ?_) (fun h6 => ?_) | refine br_eq (fun h6 => ?_) (fun h6 => ?_) | refine br_b (fun h6 => ?_) (fun h6 => ?_)) <;> (conv => lhs; whnf)
    · rw [← hso, h6]; rfl
    · rw [← hso, h6]
      exact (ih _ _ rfl (wrap_succ hlt (by omega)) hlt).trans rfl
  · rw [List.drop_eq_nil_of_le (by omega)]; rfl
end Go.Proofs.Tryz
