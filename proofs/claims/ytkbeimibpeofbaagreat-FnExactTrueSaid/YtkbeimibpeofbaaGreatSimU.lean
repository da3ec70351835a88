/- The abstract machine's steps are the machine's: each operation but the calls. -/
import Derived.Test.YtkbeimibpeofbaaGreatSimT
namespace Go.Sim

theorem elemT_some {tb : Tab} {t : TypeId} {e : TypeId} {eti : TI} (h : elemT tb t = some (e, eti)) : ∃ ti, look tb t = some ti ∧ ti.k = .slice e ∧ look tb e = some eti ∧ 0 < eti.size := by
  unfold elemT at h
  split at h
  · rename_i ti h1
    split at h
    · rename_i e' h2
      split at h
      · rename_i eti' h3
        split at h
        · rename_i h4
          simp only [Option.some.injEq, Prod.mk.injEq] at h
          obtain ⟨rfl, rfl⟩ := h
          exact ⟨ti, h1, h2, h3, h4⟩
        · cases h
      · cases h
    · cases h
  · cases h

theorem arrT_some {tb : Tab} {t : TypeId} {m : Nat} {eti : TI} (h : arrT tb t = some (m, eti)) : ∃ ti e, look tb t = some ti ∧ ti.k = .array m e ∧ look tb e = some eti ∧ 0 < eti.size := by
  unfold arrT at h
  split at h
  · rename_i ti h1
    split at h
    · rename_i m' e' h2
      split at h
      · rename_i eti' h3
        split at h
        · rename_i h4
          simp only [Option.some.injEq, Prod.mk.injEq] at h
          obtain ⟨rfl, rfl⟩ := h
          exact ⟨ti, e', h1, h2, h3, h4⟩
        · cases h
      · cases h
    · cases h
  · cases h

theorem isStrT_some {tb : Tab} {t : TypeId} (h : isStrT tb t = true) : ∃ ti, look tb t = some ti ∧ ti.k = .str := by
  unfold isStrT at h
  split at h
  · rename_i ti h1
    split at h
    · rename_i h2; exact ⟨ti, h1, h2⟩
    · cases h
  · cases h

theorem isIntT_some {tb : Tab} {t : TypeId} {k : IntKind} (h : isIntT tb t = some k) : ∃ ti, look tb t = some ti ∧ ti.k = .int k := by
  unfold isIntT at h
  split at h
  · rename_i ti h1
    split at h
    · rename_i k' h2
      have := Option.some.inj h
      subst this
      exact ⟨ti, h1, h2⟩
    · cases h
  · cases h

theorem fieldT_some {tb : Tab} {t : TypeId} {i off : Nat} {fti : TI} (h : fieldT tb t i = some (off, fti)) :
    ∃ ti fs ft, look tb t = some ti ∧ ti.k = .struct fs ∧ fs[i]? = some (off, ft) ∧ look tb ft = some fti ∧ 0 < fti.size := by
  unfold fieldT at h
  split at h
  · rename_i ti h1
    split at h
    · rename_i fs h2
      split at h
      · rename_i off' ft h3
        split at h
        · rename_i fti' h4
          split at h
          · rename_i h5
            simp only [Option.some.injEq, Prod.mk.injEq] at h
            obtain ⟨rfl, rfl⟩ := h
            exact ⟨ti, fs, ft, h1, h2, h3, h4, h5⟩
          · cases h
        · cases h
      · cases h
    · cases h
  · cases h

section
variable {P : Program} {n : Nat} {o : Oper} {env : Nat → AV} {obs : Ref → Option Ob} {s : Step}

theorem Good.mk' (h : LStep P n o s) (h1 : ∀ p ∈ s.need, evAV env p.1 = p.2) (h2 : ∀ p ∈ s.R, obs p.1 = some p.2) (h3 : ∀ r ∈ s.Nw, obs r = none) : Good P n env obs o s := ⟨h, h1, h2, h3⟩

theorem loadS_good (hd : ∀ d, o.dst = some d → d < n) {t : TypeId} {ti : TI} (hT : TIok P t ti) (h0 : 0 < ti.size) {x : Operand} (ho : o.op = .load t x) (h : loadS env obs ti x = some s) : Good P n env obs o s := by
  unfold loadS at h
  split at h
  · rename_i cells off hx
    obtain ⟨hb, rfl⟩ := when_some h
    exact ⟨ls_load_rp hd hT ho (by simpa using hb) h0, by simp [hx], by simp, by simp⟩
  · rename_i r off hx
    split at h
    · rename_i cells hr
      obtain ⟨hb, rfl⟩ := when_some h
      exact ⟨ls_load_ptr hd hT ho (by simpa using hb) h0, by simp [hx], by simp [hr], by simp⟩
    · cases h
  · rename_i r m i off hx
    split at h
    · rename_i e sz rows wr hr
      split at h
      · rename_i row hi
        obtain ⟨hb, rfl⟩ := when_some h
        simp only [Bool.and_eq_true, decide_eq_true_eq] at hb
        obtain ⟨rfl, hb⟩ := hb
        exact ⟨ls_load_eptr hd hT ho hi hb h0, by simp [hx], by simp [hr], by simp⟩
      · cases h
    · cases h
  · cases h

theorem storeS_good (hd : o.dst = none) {t : TypeId} {ti : TI} (hT : TIok P t ti) {x y : Operand} (ho : o.op = .store t x y) (h : storeS env obs ti x y = some s) : Good P n env obs o s := by
  unfold storeS at h
  split at h
  · cases h
  · rename_i xs hy
    split at h
    · rename_i r off hx
      split at h
      · rename_i cells hr
        obtain ⟨hb, rfl⟩ := when_some h
        simp only [Bool.and_eq_true, decide_eq_true_eq, beq_iff_eq] at hb
        exact ⟨ls_store_ptr hd hT ho hy hb.1 hb.2, by simp [hx], by simp [hr], by simp⟩
      · cases h
    · rename_i r m i off hx
      split at h
      · rename_i e sz rows hr
        split at h
        · rename_i row hi
          obtain ⟨hb, rfl⟩ := when_some h
          simp only [Bool.and_eq_true, decide_eq_true_eq, beq_iff_eq] at hb
          obtain ⟨⟨⟨⟨hb1, hb2⟩, rfl⟩, hb4⟩, hb5⟩ := hb
          generalize hZ : xs.flatMap (frzS obs) = Z at *
          refine Good.freeze Z (fun q hq => ?_) ⟨?_, by simp [hx], ?_, by simp⟩
          · rw [← hZ] at hq
            obtain ⟨z, _, hz⟩ := List.mem_flatMap.1 hq
            exact frzS_arr q hz
          · refine ls_store_eptr hd hT ho hi hy hb1 hb2 (by simp) (fun C M hM hR j z z' u hz hz' hu => ?_)
            simp only [List.getElem?_map, hz, Option.map_some, Option.some.injEq] at hz'
            subst hz'
            have hm := List.mem_of_getElem? hz
            exact clS_rep hM (clB_ok (List.all_eq_true.1 hb4 z hm)) (fun p hp => hR p (List.mem_flatMap.2 ⟨z, hm, hp⟩)) hu
          · intro p hp
            rcases List.mem_cons.1 hp with rfl | hp
            · simp only [obsZ, hb5, if_false]; exact hr
            · obtain ⟨z, hz, hp⟩ := List.mem_flatMap.1 hp
              exact refs1_mem p hp
        · cases h
      · cases h
    · cases h

theorem fieldS_good (hd : ∀ d, o.dst = some d → d < n) {tb : Tab} (hTb : TabOk P tb) {t : TypeId} {i off : Nat} {fti : TI} (hF : fieldT tb t i = some (off, fti)) {x : Operand} (ho : o.op = .fieldAddr t x i)
    (h : fieldS env obs off x = some s) : Good P n env obs o s := by
  obtain ⟨ti, fs, ft, h1, h2, h3, h4, h5⟩ := fieldT_some hF
  unfold fieldS at h
  split at h
  · rename_i r o' hx
    split at h
    · rename_i cells hr
      obtain ⟨hb, rfl⟩ := when_some h
      exact ⟨ls_field_ptr hd (hTb.at h1) h2 h3 (hTb.at h4) h5 ho (by simpa using hb), by simp [hx], by simp [hr], by simp⟩
    · cases h
  · rename_i cells o' hx
    have := Option.some.inj h
    subst this
    exact ⟨ls_field_rp hd (hTb.at h1) h2 h3 (hTb.at h4) h5 ho, by simp [hx], by simp, by simp⟩
  · rename_i r m j o' hx
    split at h
    · rename_i e sz rows wr hr
      obtain ⟨hb, rfl⟩ := when_some h
      exact ⟨ls_field_eptr hd (hTb.at h1) h2 h3 (hTb.at h4) h5 ho (by simpa using hb), by simp [hx], by simp [hr], by simp⟩
    · cases h
  · cases h

theorem indexS_good (hd : ∀ d, o.dst = some d → d < n) {tb : Tab} (hTb : TabOk P tb) {t e : TypeId} {eti : TI} (hE : elemT tb t = some (e, eti)) {x y : Operand} (ho : o.op = .indexAddr t x y)
    (h : indexS env obs eti x y = some s) : Good P n env obs o s := by
  obtain ⟨ti, h1, h2, h3, h4⟩ := elemT_some hE
  unfold indexS at h
  split at h
  · rename_i k i hy
    split at h
    · rename_i rows hx
      split at h
      · rename_i row hi
        obtain ⟨hb, rfl⟩ := when_some h
        simp only [Bool.and_eq_true, decide_eq_true_eq, beq_iff_eq] at hb
        exact ⟨ls_index_sl hd (hTb.at h1) h2 (hTb.at h3) ho hb.1 hi hb.2, by simp [hx, hy], by simp, by simp⟩
      · cases h
    · rename_i r m hx
      split at h
      · rename_i e' sz rows hr
        split at h
        · rename_i row hi
          obtain ⟨hb, rfl⟩ := when_some h
          simp only [Bool.and_eq_true, decide_eq_true_eq, beq_iff_eq] at hb
          exact ⟨ls_index_fr hd (hTb.at h1) h2 (hTb.at h3) ho hb.2 hb.1.1 hi hb.1.2, by simp [hx, hy], by simp [hr], by simp⟩
        · cases h
      · rename_i e' sz rows hr
        obtain ⟨hb, rfl⟩ := when_some h
        simp only [Bool.and_eq_true, decide_eq_true_eq, beq_iff_eq] at hb
        obtain ⟨⟨⟨hb1, hb2⟩, hb3⟩, rfl⟩ := hb
        exact ⟨ls_index_own hd (hTb.at h1) h2 (hTb.at h3) ho hb3 hb1 hb2, by simp [hx, hy], by simp [hr], by simp⟩
      · cases h
    · cases h
  · cases h

theorem run_indexAt_arr {t e : TypeId} {ti eti : TI} {m : Nat} (hT : TIok P t ti) (hk : ti.k = .array m e) (hE : TIok P e eti) (w : World) (b o' : Nat) (k : IntKind) (i : Int) (h : 0 ≤ i ∧ i < m) :
    (Instr.indexAt t (.pointer (some ⟨b, o', none⟩)) (.int k i)).run P w = .ok (.pointer (some ⟨b, o' + i.toNat * eti.size, none⟩)) w := by
  obtain ⟨d, h1, h2⟩ := hT.und
  rw [hk] at h2
  have : d = .array m e := h2
  subst this
  simp [Instr.indexAt, run_underlying h1, asIntOf, Instr.sureAddr, h, hE.size, addr_add]

theorem indexArrS_good (hd : ∀ d, o.dst = some d → d < n) {tb : Tab} (hTb : TabOk P tb) {t : TypeId} {m : Nat} {eti : TI} (hE : arrT tb t = some (m, eti)) {x y : Operand} (ho : o.op = .indexAddr t x y)
    (h : indexArrS env obs m eti x y = some s) : Good P n env obs o s := by
  obtain ⟨ti, e, h1, h2, h3, h4⟩ := arrT_some hE
  unfold indexArrS at h
  split at h
  · rename_i k i hy
    split at h
    · rename_i r o' hx
      split at h
      · rename_i cells hr
        obtain ⟨hb, rfl⟩ := when_some h
        simp only [Bool.and_eq_true, decide_eq_true_eq] at hb
        refine ⟨.pure hd fun C env' M a hR k1 k2 => ?_, by simp [hx, hy], by simp [hr], by simp⟩
        have hxv := hR.ev x
        rw [k1 (x, .ptr r o') (by simp)] at hxv
        have hyv := hR.ev y
        rw [k1 (y, .int k i) (by simp)] at hyv
        have hyv := rep_int hyv
        have hr' := k2 _ (.head _)
        obtain ⟨cells', b, g3, _, hm, hv⟩ := hxv
        refine ⟨.pointer (some ⟨b, o' + i.toNat * eti.size, none⟩), ?_, .of (.of ⟨cells, b, hr', hb.2, hm, rfl⟩)⟩
        simp [execOp, ho, hv, hyv, run_indexAt_arr (hTb.at h1) h2 (hTb.at h3) M.w b o' k i hb.1]
      · cases h
    · rename_i cells o' hx
      obtain ⟨hb, rfl⟩ := when_some h
      simp only [Bool.and_eq_true, decide_eq_true_eq] at hb
      refine ⟨.pure hd fun C env' M a hR k1 k2 => ?_, by simp [hx, hy], by simp, by simp⟩
      have hxv := hR.ev x
      rw [k1 (x, .rp cells o') (by simp)] at hxv
      have hyv := hR.ev y
      rw [k1 (y, .int k i) (by simp)] at hyv
      have hyv := rep_int hyv
      obtain ⟨b, q, hv, hc⟩ := hxv
      refine ⟨.pointer (some ⟨b, q + (o' + i.toNat * eti.size), none⟩), ?_, .of (.of ⟨b, q, rfl, hc⟩)⟩
      simp [execOp, ho, hv, hyv, run_indexAt_arr (hTb.at h1) h2 (hTb.at h3) M.w b (q + o') k i hb, Nat.add_assoc]
    · cases h
  · cases h

theorem seqB_ok : ∀ (ps : List (Nat × List AV)) (k : Nat), seqB k ps = true → seqFrom k ps := by
  intro ps
  induction ps with
  | nil => intro k _; trivial
  | cons p ps ih =>
    intro k h
    simp only [seqB, Bool.and_eq_true, beq_iff_eq] at h
    exact ⟨h.1, ih _ h.2⟩

theorem buildSliceS_good (hd : ∀ d, o.dst = some d → d < n) {tb : Tab} (hTb : TabOk P tb) {t e : TypeId} {eti : TI} (hE : elemT tb t = some (e, eti)) {len : Nat} {parts : Array (Nat × Operand)} (ho : o.op = .buildSlice t len parts)
    {r : Ref} {wr : Bool} (h : buildSliceS env obs e eti r wr len parts.toList = some s) : Good P n env obs o s := by
  obtain ⟨ti, h1, h2, h3, h4⟩ := elemT_some hE
  unfold buildSliceS at h
  split at h
  · cases h
  · rename_i ps hps
    obtain ⟨hb, rfl⟩ := when_some h
    simp only [Bool.and_eq_true, decide_eq_true_eq, beq_iff_eq] at hb
    obtain ⟨⟨⟨⟨⟨hb1, hb2⟩, hb3⟩, hb4⟩, hb5⟩, hb6⟩ := hb
    generalize hZ : ps.flatMap (fun p => p.2.flatMap (frzS obs)) = Z at *
    have hobr : obs r = none := by cases hm : obs r <;> simp [hm] at hb1 ⊢
    refine Good.freeze Z (fun q hq => ?_) ⟨?_, ?_, ?_, ?_⟩
    · rw [← hZ] at hq
      obtain ⟨z, _, hz⟩ := List.mem_flatMap.1 hq
      obtain ⟨y, _, hz⟩ := List.mem_flatMap.1 hz
      exact frzS_arr q hz
    · refine ls_buildSlice hd (hTb.at h1) h2 (hTb.at h3) h4 ho hb2 hb3 hps (seqB_ok _ _ hb4) (fun p hp => ?_) (obsZ obs Z) (allP_of fun p hp => allP_of fun x hx => ?_) _ (fun p hp => hp) r wr
      · have := List.all_eq_true.1 hb5 p hp
        simpa using this
      · exact clB_ok (List.all_eq_true.1 (List.all_eq_true.1 hb6 p hp) x hx)
    · intro p hp
      obtain ⟨q, _, rfl⟩ := List.mem_map.1 hp
      rfl
    · intro p hp
      obtain ⟨q, _, hp⟩ := List.mem_flatMap.1 hp
      obtain ⟨y, _, hp⟩ := List.mem_flatMap.1 hp
      exact refs1_mem p hp
    · intro q hq
      have : q = r := by simpa using hq
      subst this
      unfold obsZ
      split <;> simp [hobr]

theorem bnd_some {d : Nat} {x : Option Operand} {l : Nat} {ns : List (Operand × AV)} (h : bnd env d x = some (l, ns)) : ((x = none ∧ l = d) ∨ ∃ y k, x = some y ∧ (y, AV.int k l) ∈ ns) ∧ ∀ p ∈ ns, evAV env p.1 = p.2 := by
  unfold bnd at h
  split at h
  · simp only [Option.some.injEq, Prod.mk.injEq] at h
    obtain ⟨rfl, rfl⟩ := h
    exact ⟨.inl ⟨rfl, rfl⟩, by simp⟩
  · rename_i y
    split at h
    · rename_i k i hy
      split at h
      · rename_i h0
        simp only [Option.some.injEq, Prod.mk.injEq] at h
        obtain ⟨rfl, rfl⟩ := h
        have hi : ((i.toNat : Nat) : Int) = i := Int.toNat_of_nonneg h0
        exact ⟨.inr ⟨y, k, rfl, by rw [hi]; simp⟩, by simp [hy]⟩
      · cases h
    · cases h

theorem sliceS_good (hd : ∀ d, o.dst = some d → d < n) {cfg : Cfg} (hTb : TabOk P cfg.tab) {t : TypeId} {x : Operand} {lo hi : Option Operand} (ho : o.op = .slice t x lo hi none) (h : sliceS cfg env obs t x lo hi = some s) :
    Good P n env obs o s := by
  unfold sliceS at h
  split at h
  · rename_i str hx
    split at h
    · rename_i l n1 hh n2 hl hhi
      obtain ⟨hb, rfl⟩ := when_some h
      simp only [Bool.and_eq_true, decide_eq_true_eq] at hb
      obtain ⟨ti, h1, h2⟩ := isStrT_some hb.1.1
      obtain ⟨k1, k2⟩ := bnd_some hl
      obtain ⟨k3, k4⟩ := bnd_some hhi
      refine ⟨ls_slice_str hd (hTb.at h1) h2 ho _ (.head _) (k1.imp id fun ⟨y, k, e1, e2⟩ => ⟨y, k, e1, .tail _ (List.mem_append_left _ e2)⟩)
        (k3.imp id fun ⟨y, k, e1, e2⟩ => ⟨y, k, e1, .tail _ (List.mem_append_right _ e2)⟩) hb.1.2 hb.2, ?_, by simp, by simp⟩
      intro p hp
      rcases List.mem_cons.1 hp with rfl | hp
      · exact hx
      · exact (List.mem_append.1 hp).elim (k2 p) (k4 p)
    · cases h
  · split at h
    · cases h
    · rename_i e eti hE
      obtain ⟨ti, h1, h2, h3, h4⟩ := elemT_some hE
      generalize hZ : frzS obs (evAV env x) = Z at *
      simp only at h
      split at h
      · rename_i rows hrows
        split at h
        · rename_i l n1 hh n2 hl hhi
          obtain ⟨hb, rfl⟩ := when_some h
          simp only [Bool.and_eq_true, decide_eq_true_eq] at hb
          obtain ⟨k1, k2⟩ := bnd_some hl
          obtain ⟨k3, k4⟩ := bnd_some hhi
          refine Good.freeze Z (fun q hq => frzS_arr q (hZ ▸ hq)) ⟨ls_slice_sl hd (hTb.at h1) h2 (hTb.at h3) ho (obsZ obs Z) (clB_ok hb.1.1.1) hrows (rowLens_mem hb.1.1.2) _ _ (.head _) (fun p hp => hp)
            (k1.imp id fun ⟨y, k, e1, e2⟩ => ⟨y, k, e1, .tail _ (List.mem_append_left _ e2)⟩) (k3.imp id fun ⟨y, k, e1, e2⟩ => ⟨y, k, e1, .tail _ (List.mem_append_right _ e2)⟩) hb.1.2 hb.2, ?_, ?_, by simp⟩
          · intro p hp
            rcases List.mem_cons.1 hp with rfl | hp
            · rfl
            · exact (List.mem_append.1 hp).elim (k2 p) (k4 p)
          · exact fun p hp => refs1_mem p hp
        · cases h
      · cases h

end

end Go.Sim
