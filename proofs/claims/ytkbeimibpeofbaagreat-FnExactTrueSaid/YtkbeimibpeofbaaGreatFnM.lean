/- Copies and comparisons of arguments. Printed by a program (gen/FnM.py). -/
import Derived.Test.YtkbeimibpeofbaaGreatFnL
set_option linter.unusedSimpArgs false
set_option linter.unusedVariables false
namespace Go.Proofs.Tryz
open Go Go.Sim Go.Braid

theorem rowsT_snoc (ks : List Tm) {i : Nat} (h : i < ks.length) : rowsT (ks.take (i + 1)) = rowsT (ks.take i) ++ [cellsT ks[i]] := by
  rw [List.take_succ_eq_append_getElem h, rowsT_map, rowsT_map, List.map_append]; rfl
theorem rowsS_snoc (ks : List Sym) {i : Nat} (h : i < ks.length) : rowsS (ks.take (i + 1)) = rowsS (ks.take i) ++ [cellsS ks[i]] := by
  rw [List.take_succ_eq_append_getElem h, rowsS, rowsS, List.map_append]; rfl
theorem rowsL_snoc (ks : List Lt) {i : Nat} (h : i < ks.length) : rowsL (ks.take (i + 1)) = rowsL (ks.take i) ++ [cellsL ks[i]] := by
  rw [List.take_succ_eq_append_getElem h, rowsL, rowsL, List.map_append]; rfl
theorem rowsI_snoc (ks : List Int) {i : Nat} (h : i < ks.length) : rowsI (ks.take (i + 1)) = rowsI (ks.take i) ++ [[.int .i64 ks[i]]] := by
  rw [List.take_succ_eq_append_getElem h, rowsI, rowsI, List.map_append]; rfl
theorem rowsII_snoc (ks : List (List Int)) {i : Nat} (h : i < ks.length) : rowsII (ks.take (i + 1)) = rowsII (ks.take i) ++ [[.sl (rowsI ks[i])]] := by
  rw [List.take_succ_eq_append_getElem h, rowsII, rowsII, List.map_append]; rfl

set_option maxHeartbeats 1000000 in
theorem ev_toIntS (l : List Int) (hl : Small l.length) : EV prog cfg 174 [.sl (rowsI l)] [] = some (.sl (rowsI l), []) := by
  (refine EV_k rfl func174 (by rw [f174]) (by rw [f174]; rfl) (by rw [f174]; rfl) ?_; rw [ntmps174]; (conv => lhs; whnf))
  refine vuK_of (v_makeSlice (n := (rowsI l).length) (zero := [AV.int .i64 0]) (show 8 * _ ≤ 281474976710656 by rw [rowsI_length]; omega) (by rw [rowsI_length]; omega) rfl rfl rfl rfl rfl rfl) ?_
  (conv => lhs; whnf)
  have hlen : ∀ i, i ≤ l.length → (rowsI (l.take i) ++ List.replicate (l.length - i) [AV.int .i64 0]).length = (rowsI l).length := fun i hi => by
    rw [List.length_append, rowsI_length, rowsI_length, List.length_take, List.length_replicate]; omega
  refine loop_nat (fun z => ⟨[(0, .sl (rowsI l)), (3, .own (.loc 0 0) (rowsI l).length), (4, .int .i64 z)], [(.loc 0 0, .arr 3 1 (rowsI (l.take z.toNat) ++ List.replicate (l.length - z.toNat) [AV.int .i64 0]) true)]⟩) l.length
    (fun _ => some (.sl (rowsI l), [])) rfl (by rw [show ((0 : Nat) : Int).toNat = 0 from rfl, List.take_zero, Nat.sub_zero, ← rowsI_length l]; rfl) ?_
  intro i hi ih
  refine round_of ?_
  (conv => lhs; whnf)
  ((repeat (first | refine br_t ?_ | refine br_f ?_ | refine br_not ?_)); first | refine br_lt (fun h5 => ?_) (fun h5 => ?_) | refine br_le (fun h5 => ?_) (fun h5 => ?_) | refine br_eq (fun h5 => ?_) (fun h5 => ?_) | refine br_b (fun h5 => ?_) (fun h5 => ?_)) <;> (conv => lhs; whnf) <;> rw [rowsI_length] at h5
  · have hlt : i < l.length := by omega
    have hx : l[i] ∈ l := List.getElem_mem hlt
    have hz : ((i : Nat) : Int).toNat = i := rfl
    obtain ⟨d, hd⟩ : ∃ d, l.length - i = d + 1 := ⟨l.length - i - 1, by omega⟩
    have hil : (rowsI (l.take i)).length = i := by rw [rowsI_length, List.length_take]; omega
    have hget : (rowsI (l.take ((i : Nat) : Int).toNat) ++ List.replicate (l.length - ((i : Nat) : Int).toNat) [AV.int .i64 0])[((i : Nat) : Int).toNat]? = some [AV.int .i64 0] := by
      rw [hz, hd]
      have := get_mid (rowsI (l.take i)) d [AV.int .i64 0]
      rwa [hil] at this
    have hset : (rowsI (l.take ((i : Nat) : Int).toNat) ++ List.replicate (l.length - ((i : Nat) : Int).toNat) [AV.int .i64 0]).set ((i : Nat) : Int).toNat [AV.int .i64 l[i]] = rowsI (l.take (i + 1)) ++ List.replicate (l.length - (i + 1)) [AV.int .i64 0] := by
      rw [hz, hd, rowsI_snoc l hlt]
      have := set_mid (rowsI (l.take i)) d [AV.int .i64 0] [AV.int .i64 l[i]]
      rw [hil] at this
      rw [this, show l.length - (i + 1) = d by omega]
    have hlen2 : (rowsI (l.take ((i : Nat) : Int).toNat) ++ List.replicate (l.length - ((i : Nat) : Int).toNat) [AV.int .i64 0]).length = (rowsI l).length := hlen i hi
    (refine vuK_of (v_idx (rowsI_get hlt) rfl rfl rfl rfl) ?_; (conv => lhs; whnf))

    refine vuK_of (v_idx_wr (Int.natCast_nonneg i) (by rw [rowsI_length]; omega) hlen2 rfl rfl rfl rfl rfl) ?_
    (conv => lhs; whnf)
    refine vuK_of (v_store_row (xs := [AV.int .i64 l[i]]) rfl rfl hget hlen2 rfl rfl rfl hset rfl rfl rfl rfl rfl) ?_
    (conv => lhs; whnf)
    refine ih _ ((i + 1 : Nat) : Int) ?_ rfl hlt
    rw [show ((i + 1 : Nat) : Int).toNat = i + 1 from rfl, ← wrap_succ hlt (by omega)]
    rfl
  · have hil : i = l.length := by omega
    have hlen2 : (rowsI (l.take ((i : Nat) : Int).toNat) ++ List.replicate (l.length - ((i : Nat) : Int).toNat) [AV.int .i64 0]).length = (rowsI l).length := hlen i hi
    have hfin : rowsI (l.take ((i : Nat) : Int).toNat) ++ List.replicate (l.length - ((i : Nat) : Int).toNat) [AV.int .i64 0] = rowsI l := by
      rw [show ((i : Nat) : Int).toNat = i from rfl, hil, List.take_length, Nat.sub_self]; simp
    refine okK_of (by rw [hlen2]; exact Nat.beq_refl _) ?_
    (conv => lhs; whnf)
    rw [← hfin]
    rfl

set_option maxHeartbeats 1000000 in
theorem ev_toIntSS (l : List (List Int)) (hl : Small l.length) (hm : ∀ t ∈ l, Small t.length) : EV prog cfg 111 [.sl (rowsII l)] [] = some (.sl (rowsII l), []) := by
  (refine EV_k rfl func111 (by rw [f111]) (by rw [f111]; rfl) (by rw [f111]; rfl) ?_; rw [ntmps111]; (conv => lhs; whnf))
  refine vuK_of (v_makeSlice (n := (rowsII l).length) (zero := [AV.sl []]) (show 24 * _ ≤ 281474976710656 by rw [rowsII_length]; omega) (by rw [rowsII_length]; omega) rfl rfl rfl rfl rfl rfl) ?_
  (conv => lhs; whnf)
  have hlen : ∀ i, i ≤ l.length → (rowsII (l.take i) ++ List.replicate (l.length - i) [AV.sl []]).length = (rowsII l).length := fun i hi => by
    rw [List.length_append, rowsII_length, rowsII_length, List.length_take, List.length_replicate]; omega
  refine loop_nat (fun z => ⟨[(0, .sl (rowsII l)), (3, .own (.loc 0 0) (rowsII l).length), (4, .int .i64 z)], [(.loc 0 0, .arr 28 1 (rowsII (l.take z.toNat) ++ List.replicate (l.length - z.toNat) [AV.sl []]) true)]⟩) l.length
    (fun _ => some (.sl (rowsII l), [])) rfl (by rw [show ((0 : Nat) : Int).toNat = 0 from rfl, List.take_zero, Nat.sub_zero, ← rowsII_length l]; rfl) ?_
  intro i hi ih
  refine round_of ?_
  (conv => lhs; whnf)
  ((repeat (first | refine br_t ?_ | refine br_f ?_ | refine br_not ?_)); first | refine br_lt (fun h5 => ?_) (fun h5 => ?_) | refine br_le (fun h5 => ?_) (fun h5 => ?_) | refine br_eq (fun h5 => ?_) (fun h5 => ?_) | refine br_b (fun h5 => ?_) (fun h5 => ?_)) <;> (conv => lhs; whnf) <;> rw [rowsII_length] at h5
  · have hlt : i < l.length := by omega
    have hx : l[i] ∈ l := List.getElem_mem hlt
    have hz : ((i : Nat) : Int).toNat = i := rfl
    obtain ⟨d, hd⟩ : ∃ d, l.length - i = d + 1 := ⟨l.length - i - 1, by omega⟩
    have hil : (rowsII (l.take i)).length = i := by rw [rowsII_length, List.length_take]; omega
    have hget : (rowsII (l.take ((i : Nat) : Int).toNat) ++ List.replicate (l.length - ((i : Nat) : Int).toNat) [AV.sl []])[((i : Nat) : Int).toNat]? = some [AV.sl []] := by
      rw [hz, hd]
      have := get_mid (rowsII (l.take i)) d [AV.sl []]
      rwa [hil] at this
    have hset : (rowsII (l.take ((i : Nat) : Int).toNat) ++ List.replicate (l.length - ((i : Nat) : Int).toNat) [AV.sl []]).set ((i : Nat) : Int).toNat [AV.sl (rowsI l[i])] = rowsII (l.take (i + 1)) ++ List.replicate (l.length - (i + 1)) [AV.sl []] := by
      rw [hz, hd, rowsII_snoc l hlt]
      have := set_mid (rowsII (l.take i)) d [AV.sl []] [AV.sl (rowsI l[i])]
      rw [hil] at this
      rw [this, show l.length - (i + 1) = d by omega]
    have hlen2 : (rowsII (l.take ((i : Nat) : Int).toNat) ++ List.replicate (l.length - ((i : Nat) : Int).toNat) [AV.sl []]).length = (rowsII l).length := hlen i hi
    (refine vuK_of (v_idx (rowsII_get hlt) rfl rfl rfl rfl) ?_; (conv => lhs; whnf))
    (refine vuK_of (v_call rfl rfl (ev_toIntS l[i] (hm _ hx)) rfl rfl) ?_; (conv => lhs; whnf))
    refine vuK_of (v_idx_wr (Int.natCast_nonneg i) (by rw [rowsII_length]; omega) hlen2 rfl rfl rfl rfl rfl) ?_
    (conv => lhs; whnf)
    refine vuK_of (v_store_row (xs := [AV.sl (rowsI l[i])]) rfl rfl hget hlen2 rfl rfl rfl hset rfl rfl rfl rfl rfl) ?_
    (conv => lhs; whnf)
    refine ih _ ((i + 1 : Nat) : Int) ?_ rfl hlt
    rw [show ((i + 1 : Nat) : Int).toNat = i + 1 from rfl, ← wrap_succ hlt (by omega)]
    rfl
  · have hil : i = l.length := by omega
    have hlen2 : (rowsII (l.take ((i : Nat) : Int).toNat) ++ List.replicate (l.length - ((i : Nat) : Int).toNat) [AV.sl []]).length = (rowsII l).length := hlen i hi
    have hfin : rowsII (l.take ((i : Nat) : Int).toNat) ++ List.replicate (l.length - ((i : Nat) : Int).toNat) [AV.sl []] = rowsII l := by
      rw [show ((i : Nat) : Int).toNat = i from rfl, hil, List.take_length, Nat.sub_self]; simp
    refine okK_of (by rw [hlen2]; exact Nat.beq_refl _) ?_
    (conv => lhs; whnf)
    rw [← hfin]
    rfl

theorem ev_toSym (y : Sym) : EV prog cfg 110 [.agg (cellsS y)] [] = some (.agg (cellsS y), []) := by
  (refine EV_k rfl func110 (by rw [f110]) (by rw [f110]; rfl) (by rw [f110]; rfl) ?_; rw [ntmps110]; (conv => lhs; whnf))
  rfl

set_option maxHeartbeats 1000000 in
theorem ev_toSymS (l : List Sym) (hl : Small l.length) : EV prog cfg 33 [.sl (rowsS l)] [] = some (.sl (rowsS l), []) := by
  (refine EV_k rfl func33 (by rw [f33]) (by rw [f33]; rfl) (by rw [f33]; rfl) ?_; rw [ntmps33]; (conv => lhs; whnf))
  refine vuK_of (v_makeSlice (n := (rowsS l).length) (zero := [AV.str ByteArray.empty, .int .i64 0, .bool false]) (show 32 * _ ≤ 281474976710656 by rw [rowsS_length]; omega) (by rw [rowsS_length]; omega) rfl rfl rfl rfl rfl rfl) ?_
  (conv => lhs; whnf)
  have hlen : ∀ i, i ≤ l.length → (rowsS (l.take i) ++ List.replicate (l.length - i) [AV.str ByteArray.empty, .int .i64 0, .bool false]).length = (rowsS l).length := fun i hi => by
    rw [List.length_append, rowsS_length, rowsS_length, List.length_take, List.length_replicate]; omega
  refine loop_nat (fun z => ⟨[(0, .sl (rowsS l)), (3, .own (.loc 0 0) (rowsS l).length), (4, .int .i64 z)], [(.loc 0 0, .arr 110 3 (rowsS (l.take z.toNat) ++ List.replicate (l.length - z.toNat) [AV.str ByteArray.empty, .int .i64 0, .bool false]) true)]⟩) l.length
    (fun _ => some (.sl (rowsS l), [])) rfl (by rw [show ((0 : Nat) : Int).toNat = 0 from rfl, List.take_zero, Nat.sub_zero, ← rowsS_length l]; rfl) ?_
  intro i hi ih
  refine round_of ?_
  (conv => lhs; whnf)
  ((repeat (first | refine br_t ?_ | refine br_f ?_ | refine br_not ?_)); first | refine br_lt (fun h5 => ?_) (fun h5 => ?_) | refine br_le (fun h5 => ?_) (fun h5 => ?_) | refine br_eq (fun h5 => ?_) (fun h5 => ?_) | refine br_b (fun h5 => ?_) (fun h5 => ?_)) <;> (conv => lhs; whnf) <;> rw [rowsS_length] at h5
  · have hlt : i < l.length := by omega
    have hx : l[i] ∈ l := List.getElem_mem hlt
    have hz : ((i : Nat) : Int).toNat = i := rfl
    obtain ⟨d, hd⟩ : ∃ d, l.length - i = d + 1 := ⟨l.length - i - 1, by omega⟩
    have hil : (rowsS (l.take i)).length = i := by rw [rowsS_length, List.length_take]; omega
    have hget : (rowsS (l.take ((i : Nat) : Int).toNat) ++ List.replicate (l.length - ((i : Nat) : Int).toNat) [AV.str ByteArray.empty, .int .i64 0, .bool false])[((i : Nat) : Int).toNat]? = some [AV.str ByteArray.empty, .int .i64 0, .bool false] := by
      rw [hz, hd]
      have := get_mid (rowsS (l.take i)) d [AV.str ByteArray.empty, .int .i64 0, .bool false]
      rwa [hil] at this
    have hset : (rowsS (l.take ((i : Nat) : Int).toNat) ++ List.replicate (l.length - ((i : Nat) : Int).toNat) [AV.str ByteArray.empty, .int .i64 0, .bool false]).set ((i : Nat) : Int).toNat (cellsS l[i]) = rowsS (l.take (i + 1)) ++ List.replicate (l.length - (i + 1)) [AV.str ByteArray.empty, .int .i64 0, .bool false] := by
      rw [hz, hd, rowsS_snoc l hlt]
      have := set_mid (rowsS (l.take i)) d [AV.str ByteArray.empty, .int .i64 0, .bool false] (cellsS l[i])
      rw [hil] at this
      rw [this, show l.length - (i + 1) = d by omega]
    have hlen2 : (rowsS (l.take ((i : Nat) : Int).toNat) ++ List.replicate (l.length - ((i : Nat) : Int).toNat) [AV.str ByteArray.empty, .int .i64 0, .bool false]).length = (rowsS l).length := hlen i hi
    (refine vuK_of (v_idx (rowsS_get hlt) rfl rfl rfl rfl) ?_; (conv => lhs; whnf))
    (refine vuK_of (v_call rfl rfl (ev_toSym l[i]) rfl rfl) ?_; (conv => lhs; whnf))
    refine vuK_of (v_idx_wr (Int.natCast_nonneg i) (by rw [rowsS_length]; omega) hlen2 rfl rfl rfl rfl rfl) ?_
    (conv => lhs; whnf)
    refine vuK_of (v_store_row (xs := (cellsS l[i])) rfl rfl hget hlen2 rfl rfl rfl hset rfl rfl rfl rfl rfl) ?_
    (conv => lhs; whnf)
    refine ih _ ((i + 1 : Nat) : Int) ?_ rfl hlt
    rw [show ((i + 1 : Nat) : Int).toNat = i + 1 from rfl, ← wrap_succ hlt (by omega)]
    rfl
  · have hil : i = l.length := by omega
    have hlen2 : (rowsS (l.take ((i : Nat) : Int).toNat) ++ List.replicate (l.length - ((i : Nat) : Int).toNat) [AV.str ByteArray.empty, .int .i64 0, .bool false]).length = (rowsS l).length := hlen i hi
    have hfin : rowsS (l.take ((i : Nat) : Int).toNat) ++ List.replicate (l.length - ((i : Nat) : Int).toNat) [AV.str ByteArray.empty, .int .i64 0, .bool false] = rowsS l := by
      rw [show ((i : Nat) : Int).toNat = i from rfl, hil, List.take_length, Nat.sub_self]; simp
    refine okK_of (by rw [hlen2]; exact Nat.beq_refl _) ?_
    (conv => lhs; whnf)
    rw [← hfin]
    rfl

set_option maxHeartbeats 1000000 in
theorem ev_toTermS (l : List Tm) (hl : Small l.length) (he : ∀ k ∈ l, EV prog cfg 208 [.agg (cellsT k)] [] = some (.agg (cellsT k), [])) : EV prog cfg 225 [.sl (rowsT l)] [] = some (.sl (rowsT l), []) := by
  (refine EV_k rfl func225 (by rw [f225]) (by rw [f225]; rfl) (by rw [f225]; rfl) ?_; rw [ntmps225]; (conv => lhs; whnf))
  refine vuK_of (v_makeSlice (n := (rowsT l).length) (zero := [AV.int .i64 0, .int .i64 0, .sl []]) (show 40 * _ ≤ 281474976710656 by rw [rowsT_length]; omega) (by rw [rowsT_length]; omega) rfl rfl rfl rfl rfl rfl) ?_
  (conv => lhs; whnf)
  have hlen : ∀ i, i ≤ l.length → (rowsT (l.take i) ++ List.replicate (l.length - i) [AV.int .i64 0, .int .i64 0, .sl []]).length = (rowsT l).length := fun i hi => by
    rw [List.length_append, rowsT_length, rowsT_length, List.length_take, List.length_replicate]; omega
  refine loop_nat (fun z => ⟨[(0, .sl (rowsT l)), (3, .own (.loc 0 0) (rowsT l).length), (4, .int .i64 z)], [(.loc 0 0, .arr 72 3 (rowsT (l.take z.toNat) ++ List.replicate (l.length - z.toNat) [AV.int .i64 0, .int .i64 0, .sl []]) true)]⟩) l.length
    (fun _ => some (.sl (rowsT l), [])) rfl (by rw [show ((0 : Nat) : Int).toNat = 0 from rfl, List.take_zero, Nat.sub_zero, ← rowsT_length l]; rfl) ?_
  intro i hi ih
  refine round_of ?_
  (conv => lhs; whnf)
  ((repeat (first | refine br_t ?_ | refine br_f ?_ | refine br_not ?_)); first | refine br_lt (fun h5 => ?_) (fun h5 => ?_) | refine br_le (fun h5 => ?_) (fun h5 => ?_) | refine br_eq (fun h5 => ?_) (fun h5 => ?_) | refine br_b (fun h5 => ?_) (fun h5 => ?_)) <;> (conv => lhs; whnf) <;> rw [rowsT_length] at h5
  · have hlt : i < l.length := by omega
    have hx : l[i] ∈ l := List.getElem_mem hlt
    have hz : ((i : Nat) : Int).toNat = i := rfl
    obtain ⟨d, hd⟩ : ∃ d, l.length - i = d + 1 := ⟨l.length - i - 1, by omega⟩
    have hil : (rowsT (l.take i)).length = i := by rw [rowsT_length, List.length_take]; omega
    have hget : (rowsT (l.take ((i : Nat) : Int).toNat) ++ List.replicate (l.length - ((i : Nat) : Int).toNat) [AV.int .i64 0, .int .i64 0, .sl []])[((i : Nat) : Int).toNat]? = some [AV.int .i64 0, .int .i64 0, .sl []] := by
      rw [hz, hd]
      have := get_mid (rowsT (l.take i)) d [AV.int .i64 0, .int .i64 0, .sl []]
      rwa [hil] at this
    have hset : (rowsT (l.take ((i : Nat) : Int).toNat) ++ List.replicate (l.length - ((i : Nat) : Int).toNat) [AV.int .i64 0, .int .i64 0, .sl []]).set ((i : Nat) : Int).toNat (cellsT l[i]) = rowsT (l.take (i + 1)) ++ List.replicate (l.length - (i + 1)) [AV.int .i64 0, .int .i64 0, .sl []] := by
      rw [hz, hd, rowsT_snoc l hlt]
      have := set_mid (rowsT (l.take i)) d [AV.int .i64 0, .int .i64 0, .sl []] (cellsT l[i])
      rw [hil] at this
      rw [this, show l.length - (i + 1) = d by omega]
    have hlen2 : (rowsT (l.take ((i : Nat) : Int).toNat) ++ List.replicate (l.length - ((i : Nat) : Int).toNat) [AV.int .i64 0, .int .i64 0, .sl []]).length = (rowsT l).length := hlen i hi
    (refine vuK_of (v_idx (rowsT_get hlt) rfl rfl rfl rfl) ?_; (conv => lhs; whnf))
    (refine vuK_of (v_call rfl rfl (he l[i] hx) rfl rfl) ?_; (conv => lhs; whnf))
    refine vuK_of (v_idx_wr (Int.natCast_nonneg i) (by rw [rowsT_length]; omega) hlen2 rfl rfl rfl rfl rfl) ?_
    (conv => lhs; whnf)
    refine vuK_of (v_store_row (xs := (cellsT l[i])) rfl rfl hget hlen2 rfl rfl rfl hset rfl rfl rfl rfl rfl) ?_
    (conv => lhs; whnf)
    refine ih _ ((i + 1 : Nat) : Int) ?_ rfl hlt
    rw [show ((i + 1 : Nat) : Int).toNat = i + 1 from rfl, ← wrap_succ hlt (by omega)]
    rfl
  · have hil : i = l.length := by omega
    have hlen2 : (rowsT (l.take ((i : Nat) : Int).toNat) ++ List.replicate (l.length - ((i : Nat) : Int).toNat) [AV.int .i64 0, .int .i64 0, .sl []]).length = (rowsT l).length := hlen i hi
    have hfin : rowsT (l.take ((i : Nat) : Int).toNat) ++ List.replicate (l.length - ((i : Nat) : Int).toNat) [AV.int .i64 0, .int .i64 0, .sl []] = rowsT l := by
      rw [show ((i : Nat) : Int).toNat = i from rfl, hil, List.take_length, Nat.sub_self]; simp
    refine okK_of (by rw [hlen2]; exact Nat.beq_refl _) ?_
    (conv => lhs; whnf)
    rw [← hfin]
    rfl

theorem ev_toTerm : ∀ (t : Tm), Small (nodes t) → EV prog cfg 208 [.agg (cellsT t)] [] = some (.agg (cellsT t), []) := by
  intro t
  induction t using Tm.ind with
  | h f v ks ihk =>
    intro ha
    generalize hA : Tm.mk f v ks = t at ha ⊢
    have hk : t.kids = ks := by rw [← hA]; rfl
    rw [← hk] at ihk
    have hkl := nodes_len t
    have hs := ev_toTermS t.kids (by omega) (fun k hk => ihk k hk (by have := nodes_kid hk; omega))
    (refine EV_k rfl func208 (by rw [f208]) (by rw [f208]; rfl) (by rw [f208]; rfl) ?_; rw [ntmps208]; (conv => lhs; whnf))
    (refine vuK_of (v_call rfl rfl (hs) rfl rfl) ?_; (conv => lhs; whnf))
    rfl
theorem ev_toLit (l : Lt) (hl : LitSmall l) : EV prog cfg 175 [.agg (cellsL l)] [] = some (.agg (cellsL l), []) := by
  (refine EV_k rfl func175 (by rw [f175]) (by rw [f175]; rfl) (by rw [f175]; rfl) ?_; rw [ntmps175]; (conv => lhs; whnf))
  (refine vuK_of (v_call rfl rfl (ev_toTerm l.l hl.1) rfl rfl) ?_; (conv => lhs; whnf))
  (refine vuK_of (v_call rfl rfl (ev_toTerm l.r hl.2) rfl rfl) ?_; (conv => lhs; whnf))
  rfl

set_option maxHeartbeats 1000000 in
theorem ev_toLitS (l : List Lt) (hl : Small l.length) (hm : ∀ x ∈ l, LitSmall x) : EV prog cfg 112 [.sl (rowsL l)] [] = some (.sl (rowsL l), []) := by
  (refine EV_k rfl func112 (by rw [f112]) (by rw [f112]; rfl) (by rw [f112]; rfl) ?_; rw [ntmps112]; (conv => lhs; whnf))
  refine vuK_of (v_makeSlice (n := (rowsL l).length) (zero := [AV.bool false, .int .i64 0, .int .i64 0, .sl [], .int .i64 0, .int .i64 0, .sl []]) (show 88 * _ ≤ 281474976710656 by rw [rowsL_length]; omega) (by rw [rowsL_length]; omega) rfl rfl rfl rfl rfl rfl) ?_
  (conv => lhs; whnf)
  have hlen : ∀ i, i ≤ l.length → (rowsL (l.take i) ++ List.replicate (l.length - i) [AV.bool false, .int .i64 0, .int .i64 0, .sl [], .int .i64 0, .int .i64 0, .sl []]).length = (rowsL l).length := fun i hi => by
    rw [List.length_append, rowsL_length, rowsL_length, List.length_take, List.length_replicate]; omega
  refine loop_nat (fun z => ⟨[(0, .sl (rowsL l)), (3, .own (.loc 0 0) (rowsL l).length), (4, .int .i64 z)], [(.loc 0 0, .arr 74 7 (rowsL (l.take z.toNat) ++ List.replicate (l.length - z.toNat) [AV.bool false, .int .i64 0, .int .i64 0, .sl [], .int .i64 0, .int .i64 0, .sl []]) true)]⟩) l.length
    (fun _ => some (.sl (rowsL l), [])) rfl (by rw [show ((0 : Nat) : Int).toNat = 0 from rfl, List.take_zero, Nat.sub_zero, ← rowsL_length l]; rfl) ?_
  intro i hi ih
  refine round_of ?_
  (conv => lhs; whnf)
  ((repeat (first | refine br_t ?_ | refine br_f ?_ | refine br_not ?_)); first | refine br_lt (fun h5 => ?_) (fun h5 => ?_) | refine br_le (fun h5 => ?_) (fun h5 => ?_) | refine br_eq (fun h5 => ?_) (fun h5 => ?_) | refine br_b (fun h5 => ?_) (fun h5 => ?_)) <;> (conv => lhs; whnf) <;> rw [rowsL_length] at h5
  · have hlt : i < l.length := by omega
    have hx : l[i] ∈ l := List.getElem_mem hlt
    have hz : ((i : Nat) : Int).toNat = i := rfl
    obtain ⟨d, hd⟩ : ∃ d, l.length - i = d + 1 := ⟨l.length - i - 1, by omega⟩
    have hil : (rowsL (l.take i)).length = i := by rw [rowsL_length, List.length_take]; omega
    have hget : (rowsL (l.take ((i : Nat) : Int).toNat) ++ List.replicate (l.length - ((i : Nat) : Int).toNat) [AV.bool false, .int .i64 0, .int .i64 0, .sl [], .int .i64 0, .int .i64 0, .sl []])[((i : Nat) : Int).toNat]? = some [AV.bool false, .int .i64 0, .int .i64 0, .sl [], .int .i64 0, .int .i64 0, .sl []] := by
      rw [hz, hd]
      have := get_mid (rowsL (l.take i)) d [AV.bool false, .int .i64 0, .int .i64 0, .sl [], .int .i64 0, .int .i64 0, .sl []]
      rwa [hil] at this
    have hset : (rowsL (l.take ((i : Nat) : Int).toNat) ++ List.replicate (l.length - ((i : Nat) : Int).toNat) [AV.bool false, .int .i64 0, .int .i64 0, .sl [], .int .i64 0, .int .i64 0, .sl []]).set ((i : Nat) : Int).toNat (cellsL l[i]) = rowsL (l.take (i + 1)) ++ List.replicate (l.length - (i + 1)) [AV.bool false, .int .i64 0, .int .i64 0, .sl [], .int .i64 0, .int .i64 0, .sl []] := by
      rw [hz, hd, rowsL_snoc l hlt]
      have := set_mid (rowsL (l.take i)) d [AV.bool false, .int .i64 0, .int .i64 0, .sl [], .int .i64 0, .int .i64 0, .sl []] (cellsL l[i])
      rw [hil] at this
      rw [this, show l.length - (i + 1) = d by omega]
    have hlen2 : (rowsL (l.take ((i : Nat) : Int).toNat) ++ List.replicate (l.length - ((i : Nat) : Int).toNat) [AV.bool false, .int .i64 0, .int .i64 0, .sl [], .int .i64 0, .int .i64 0, .sl []]).length = (rowsL l).length := hlen i hi
    (refine vuK_of (v_idx (rowsL_get hlt) rfl rfl rfl rfl) ?_; (conv => lhs; whnf))
    (refine vuK_of (v_call rfl rfl (ev_toLit l[i] (hm _ hx)) rfl rfl) ?_; (conv => lhs; whnf))
    refine vuK_of (v_idx_wr (Int.natCast_nonneg i) (by rw [rowsL_length]; omega) hlen2 rfl rfl rfl rfl rfl) ?_
    (conv => lhs; whnf)
    refine vuK_of (v_store_row (xs := (cellsL l[i])) rfl rfl hget hlen2 rfl rfl rfl hset rfl rfl rfl rfl rfl) ?_
    (conv => lhs; whnf)
    refine ih _ ((i + 1 : Nat) : Int) ?_ rfl hlt
    rw [show ((i + 1 : Nat) : Int).toNat = i + 1 from rfl, ← wrap_succ hlt (by omega)]
    rfl
  · have hil : i = l.length := by omega
    have hlen2 : (rowsL (l.take ((i : Nat) : Int).toNat) ++ List.replicate (l.length - ((i : Nat) : Int).toNat) [AV.bool false, .int .i64 0, .int .i64 0, .sl [], .int .i64 0, .int .i64 0, .sl []]).length = (rowsL l).length := hlen i hi
    have hfin : rowsL (l.take ((i : Nat) : Int).toNat) ++ List.replicate (l.length - ((i : Nat) : Int).toNat) [AV.bool false, .int .i64 0, .int .i64 0, .sl [], .int .i64 0, .int .i64 0, .sl []] = rowsL l := by
      rw [show ((i : Nat) : Int).toNat = i from rfl, hil, List.take_length, Nat.sub_self]; simp
    refine okK_of (by rw [hlen2]; exact Nat.beq_refl _) ?_
    (conv => lhs; whnf)
    rw [← hfin]
    rfl

theorem ev_toClause (c : List Lt) (hc : ClSmall c) : EV prog cfg 35 [.agg [.sl (rowsL c)]] [] = some (.agg [.sl (rowsL c)], []) := by
  (refine EV_k rfl func35 (by rw [f35]) (by rw [f35]; rfl) (by rw [f35]; rfl) ?_; rw [ntmps35]; (conv => lhs; whnf))
  (refine vuK_of (v_call rfl rfl (ev_toLitS c hc.len (fun x hx => hc.lit hx)) rfl rfl) ?_; (conv => lhs; whnf))
  rfl
theorem ev_toModel (ts : List (List Int)) (ht : WdSmall ts) : EV prog cfg 34 [.agg [.sl (rowsII ts)]] [] = some (.agg [.sl (rowsII ts)], []) := by
  (refine EV_k rfl func34 (by rw [f34]) (by rw [f34]; rfl) (by rw [f34]; rfl) ?_; rw [ntmps34]; (conv => lhs; whnf))
  (refine vuK_of (v_call rfl rfl (ev_toIntSS ts ht.1 ht.2) rfl rfl) ?_; (conv => lhs; whnf))
  rfl
theorem ev_eqSym (y : Sym) : EV prog cfg 113 [.agg (cellsS y), .agg (cellsS y)] [] = some (.bool true, []) := by
  (refine EV_k rfl func113 (by rw [f113]) (by rw [f113]; rfl) (by rw [f113]; rfl) ?_; rw [ntmps113]; (conv => lhs; whnf))
  (repeat (any_goals (first | fail | (((repeat (first | refine br_t ?_ | refine br_f ?_ | refine br_not ?_)); first | refine br_lt (fun hh => ?_) (fun hh => ?_) | refine br_le (fun hh => ?_) (fun hh => ?_) | refine br_eq (fun hh => ?_) (fun hh => ?_) | refine br_b (fun hh => ?_) (fun hh => ?_)) <;> (conv => lhs; whnf)))))
  all_goals first | rfl | (exfalso; simp at *; done)

theorem ev_eqSymS (l : List Sym) (hl : Small l.length) : EV prog cfg 36 [.sl (rowsS l), .sl (rowsS l)] [] = some (.bool true, []) := by
  (refine EV_k rfl func36 (by rw [f36]) (by rw [f36]; rfl) (by rw [f36]; rfl) ?_; rw [ntmps36]; (conv => lhs; whnf))
  ((repeat (first | refine br_t ?_ | refine br_f ?_ | refine br_not ?_)); first | refine br_lt (fun h => ?_) (fun h => ?_) | refine br_le (fun h => ?_) (fun h => ?_) | refine br_eq (fun h => ?_) (fun h => ?_) | refine br_b (fun h => ?_) (fun h => ?_)) <;> (conv => lhs; whnf)
  · refine loop_nat (fun z => ⟨[(0, .sl (rowsS l)), (1, .sl (rowsS l)), (5, .int .i64 z)], []⟩) l.length (fun _ => some (.bool true, [])) rfl rfl ?_
    intro i hi ih
    refine round_of ?_
    (conv => lhs; whnf)
    ((repeat (first | refine br_t ?_ | refine br_f ?_ | refine br_not ?_)); first | refine br_lt (fun h5 => ?_) (fun h5 => ?_) | refine br_le (fun h5 => ?_) (fun h5 => ?_) | refine br_eq (fun h5 => ?_) (fun h5 => ?_) | refine br_b (fun h5 => ?_) (fun h5 => ?_)) <;> (conv => lhs; whnf) <;> rw [rowsS_length] at h5
    · have hlt : i < l.length := by omega
      have hx : l[i] ∈ l := List.getElem_mem hlt
      (refine vuK_of (v_idx (rowsS_get hlt) rfl rfl rfl rfl) ?_; (conv => lhs; whnf))
      (refine vuK_of (v_idx (rowsS_get hlt) rfl rfl rfl rfl) ?_; (conv => lhs; whnf))
      (refine vuK_of (v_call rfl rfl (ev_eqSym l[i]) rfl rfl) ?_; (conv => lhs; whnf))
      exact ih _ _ rfl (wrap_succ hlt (by omega)) hlt
    · rfl
  · exact absurd rfl h

theorem ev_eqTermS (l : List Tm) (hl : Small l.length) (he : ∀ k ∈ l, EV prog cfg 209 [.agg (cellsT k), .agg (cellsT k)] [] = some (.bool true, [])) : EV prog cfg 226 [.sl (rowsT l), .sl (rowsT l)] [] = some (.bool true, []) := by
  (refine EV_k rfl func226 (by rw [f226]) (by rw [f226]; rfl) (by rw [f226]; rfl) ?_; rw [ntmps226]; (conv => lhs; whnf))
  ((repeat (first | refine br_t ?_ | refine br_f ?_ | refine br_not ?_)); first | refine br_lt (fun h => ?_) (fun h => ?_) | refine br_le (fun h => ?_) (fun h => ?_) | refine br_eq (fun h => ?_) (fun h => ?_) | refine br_b (fun h => ?_) (fun h => ?_)) <;> (conv => lhs; whnf)
  · refine loop_nat (fun z => ⟨[(0, .sl (rowsT l)), (1, .sl (rowsT l)), (5, .int .i64 z)], []⟩) l.length (fun _ => some (.bool true, [])) rfl rfl ?_
    intro i hi ih
    refine round_of ?_
    (conv => lhs; whnf)
    ((repeat (first | refine br_t ?_ | refine br_f ?_ | refine br_not ?_)); first | refine br_lt (fun h5 => ?_) (fun h5 => ?_) | refine br_le (fun h5 => ?_) (fun h5 => ?_) | refine br_eq (fun h5 => ?_) (fun h5 => ?_) | refine br_b (fun h5 => ?_) (fun h5 => ?_)) <;> (conv => lhs; whnf) <;> rw [rowsT_length] at h5
    · have hlt : i < l.length := by omega
      have hx : l[i] ∈ l := List.getElem_mem hlt
      (refine vuK_of (v_idx (rowsT_get hlt) rfl rfl rfl rfl) ?_; (conv => lhs; whnf))
      (refine vuK_of (v_idx (rowsT_get hlt) rfl rfl rfl rfl) ?_; (conv => lhs; whnf))
      (refine vuK_of (v_call rfl rfl (he l[i] hx) rfl rfl) ?_; (conv => lhs; whnf))
      exact ih _ _ rfl (wrap_succ hlt (by omega)) hlt
    · rfl
  · exact absurd rfl h

theorem ev_eqTerm : ∀ (t : Tm), Small (nodes t) → EV prog cfg 209 [.agg (cellsT t), .agg (cellsT t)] [] = some (.bool true, []) := by
  intro t
  induction t using Tm.ind with
  | h f v ks ihk =>
    intro ha
    generalize hA : Tm.mk f v ks = t at ha ⊢
    have hk : t.kids = ks := by rw [← hA]; rfl
    rw [← hk] at ihk
    have hkl := nodes_len t
    have hs := ev_eqTermS t.kids (by omega) (fun k hk => ihk k hk (by have := nodes_kid hk; omega))
    (refine EV_k rfl func209 (by rw [f209]) (by rw [f209]; rfl) (by rw [f209]; rfl) ?_; rw [ntmps209]; (conv => lhs; whnf))
    (repeat (any_goals (first | (refine vuK_of (v_call rfl rfl (hs) rfl rfl) ?_; (conv => lhs; whnf)) | (((repeat (first | refine br_t ?_ | refine br_f ?_ | refine br_not ?_)); first | refine br_lt (fun hh => ?_) (fun hh => ?_) | refine br_le (fun hh => ?_) (fun hh => ?_) | refine br_eq (fun hh => ?_) (fun hh => ?_) | refine br_b (fun hh => ?_) (fun hh => ?_)) <;> (conv => lhs; whnf)))))
    all_goals first | rfl | (exfalso; simp at *; done)
theorem ev_eqLit (l : Lt) (hl : LitSmall l) : EV prog cfg 177 [.agg (cellsL l), .agg (cellsL l)] [] = some (.bool true, []) := by
  (refine EV_k rfl func177 (by rw [f177]) (by rw [f177]; rfl) (by rw [f177]; rfl) ?_; rw [ntmps177]; (conv => lhs; whnf))
  (repeat (any_goals (first | (refine vuK_of (v_call rfl rfl (ev_eqTerm l.l hl.1) rfl rfl) ?_; (conv => lhs; whnf)) | (refine vuK_of (v_call rfl rfl (ev_eqTerm l.r hl.2) rfl rfl) ?_; (conv => lhs; whnf)) | (((repeat (first | refine br_t ?_ | refine br_f ?_ | refine br_not ?_)); first | refine br_lt (fun hh => ?_) (fun hh => ?_) | refine br_le (fun hh => ?_) (fun hh => ?_) | refine br_eq (fun hh => ?_) (fun hh => ?_) | refine br_b (fun hh => ?_) (fun hh => ?_)) <;> (conv => lhs; whnf)))))
  all_goals first | rfl | (exfalso; simp at *; done)

theorem ev_eqLitS (l : List Lt) (hl : Small l.length) (hm : ∀ x ∈ l, LitSmall x) : EV prog cfg 115 [.sl (rowsL l), .sl (rowsL l)] [] = some (.bool true, []) := by
  (refine EV_k rfl func115 (by rw [f115]) (by rw [f115]; rfl) (by rw [f115]; rfl) ?_; rw [ntmps115]; (conv => lhs; whnf))
  ((repeat (first | refine br_t ?_ | refine br_f ?_ | refine br_not ?_)); first | refine br_lt (fun h => ?_) (fun h => ?_) | refine br_le (fun h => ?_) (fun h => ?_) | refine br_eq (fun h => ?_) (fun h => ?_) | refine br_b (fun h => ?_) (fun h => ?_)) <;> (conv => lhs; whnf)
  · refine loop_nat (fun z => ⟨[(0, .sl (rowsL l)), (1, .sl (rowsL l)), (5, .int .i64 z)], []⟩) l.length (fun _ => some (.bool true, [])) rfl rfl ?_
    intro i hi ih
    refine round_of ?_
    (conv => lhs; whnf)
    ((repeat (first | refine br_t ?_ | refine br_f ?_ | refine br_not ?_)); first | refine br_lt (fun h5 => ?_) (fun h5 => ?_) | refine br_le (fun h5 => ?_) (fun h5 => ?_) | refine br_eq (fun h5 => ?_) (fun h5 => ?_) | refine br_b (fun h5 => ?_) (fun h5 => ?_)) <;> (conv => lhs; whnf) <;> rw [rowsL_length] at h5
    · have hlt : i < l.length := by omega
      have hx : l[i] ∈ l := List.getElem_mem hlt
      (refine vuK_of (v_idx (rowsL_get hlt) rfl rfl rfl rfl) ?_; (conv => lhs; whnf))
      (refine vuK_of (v_idx (rowsL_get hlt) rfl rfl rfl rfl) ?_; (conv => lhs; whnf))
      (refine vuK_of (v_call rfl rfl (ev_eqLit l[i] (hm _ hx)) rfl rfl) ?_; (conv => lhs; whnf))
      exact ih _ _ rfl (wrap_succ hlt (by omega)) hlt
    · rfl
  · exact absurd rfl h

theorem ev_eqClause (c : List Lt) (hc : ClSmall c) : EV prog cfg 38 [.agg [.sl (rowsL c)], .agg [.sl (rowsL c)]] [] = some (.bool true, []) := by
  (refine EV_k rfl func38 (by rw [f38]) (by rw [f38]; rfl) (by rw [f38]; rfl) ?_; rw [ntmps38]; (conv => lhs; whnf))
  (refine vuK_of (v_call rfl rfl (ev_eqLitS c hc.len (fun x hx => hc.lit hx)) rfl rfl) ?_; (conv => lhs; whnf))
  rfl

theorem ev_eqIntS (l : List Int) (hl : Small l.length) : EV prog cfg 176 [.sl (rowsI l), .sl (rowsI l)] [] = some (.bool true, []) := by
  (refine EV_k rfl func176 (by rw [f176]) (by rw [f176]; rfl) (by rw [f176]; rfl) ?_; rw [ntmps176]; (conv => lhs; whnf))
  ((repeat (first | refine br_t ?_ | refine br_f ?_ | refine br_not ?_)); first | refine br_lt (fun h => ?_) (fun h => ?_) | refine br_le (fun h => ?_) (fun h => ?_) | refine br_eq (fun h => ?_) (fun h => ?_) | refine br_b (fun h => ?_) (fun h => ?_)) <;> (conv => lhs; whnf)
  · refine loop_nat (fun z => ⟨[(0, .sl (rowsI l)), (1, .sl (rowsI l)), (5, .int .i64 z)], []⟩) l.length (fun _ => some (.bool true, [])) rfl rfl ?_
    intro i hi ih
    refine round_of ?_
    (conv => lhs; whnf)
    ((repeat (first | refine br_t ?_ | refine br_f ?_ | refine br_not ?_)); first | refine br_lt (fun h5 => ?_) (fun h5 => ?_) | refine br_le (fun h5 => ?_) (fun h5 => ?_) | refine br_eq (fun h5 => ?_) (fun h5 => ?_) | refine br_b (fun h5 => ?_) (fun h5 => ?_)) <;> (conv => lhs; whnf) <;> rw [rowsI_length] at h5
    · have hlt : i < l.length := by omega
      (refine vuK_of (v_idx (rowsI_get hlt) rfl rfl rfl rfl) ?_; (conv => lhs; whnf))
      (refine vuK_of (v_idx (rowsI_get hlt) rfl rfl rfl rfl) ?_; (conv => lhs; whnf))
      ((repeat (first | refine br_t ?_ | refine br_f ?_ | refine br_not ?_)); first | refine br_lt (fun h6 => ?_) (fun h6 => ?_) | refine br_le (fun h6 => ?_) (fun h6 => ?_) | refine br_eq (fun h6 => ?_) (fun h6 => ?_) | refine br_b (fun h6 => ?_) (fun h6 => ?_)) <;> (conv => lhs; whnf)
      · exact ih _ _ rfl (wrap_succ hlt (by omega)) hlt
      · exact absurd rfl h6
    · rfl
  · exact absurd rfl h

theorem ev_eqIntSS (l : List (List Int)) (hl : Small l.length) (hm : ∀ t ∈ l, Small t.length) : EV prog cfg 114 [.sl (rowsII l), .sl (rowsII l)] [] = some (.bool true, []) := by
  (refine EV_k rfl func114 (by rw [f114]) (by rw [f114]; rfl) (by rw [f114]; rfl) ?_; rw [ntmps114]; (conv => lhs; whnf))
  ((repeat (first | refine br_t ?_ | refine br_f ?_ | refine br_not ?_)); first | refine br_lt (fun h => ?_) (fun h => ?_) | refine br_le (fun h => ?_) (fun h => ?_) | refine br_eq (fun h => ?_) (fun h => ?_) | refine br_b (fun h => ?_) (fun h => ?_)) <;> (conv => lhs; whnf)
  · refine loop_nat (fun z => ⟨[(0, .sl (rowsII l)), (1, .sl (rowsII l)), (5, .int .i64 z)], []⟩) l.length (fun _ => some (.bool true, [])) rfl rfl ?_
    intro i hi ih
    refine round_of ?_
    (conv => lhs; whnf)
    ((repeat (first | refine br_t ?_ | refine br_f ?_ | refine br_not ?_)); first | refine br_lt (fun h5 => ?_) (fun h5 => ?_) | refine br_le (fun h5 => ?_) (fun h5 => ?_) | refine br_eq (fun h5 => ?_) (fun h5 => ?_) | refine br_b (fun h5 => ?_) (fun h5 => ?_)) <;> (conv => lhs; whnf) <;> rw [rowsII_length] at h5
    · have hlt : i < l.length := by omega
      have hx : l[i] ∈ l := List.getElem_mem hlt
      (refine vuK_of (v_idx (rowsII_get hlt) rfl rfl rfl rfl) ?_; (conv => lhs; whnf))
      (refine vuK_of (v_idx (rowsII_get hlt) rfl rfl rfl rfl) ?_; (conv => lhs; whnf))
      (refine vuK_of (v_call rfl rfl (ev_eqIntS l[i] (hm _ hx)) rfl rfl) ?_; (conv => lhs; whnf))
      exact ih _ _ rfl (wrap_succ hlt (by omega)) hlt
    · rfl
  · exact absurd rfl h

theorem ev_eqModel (ts : List (List Int)) (ht : WdSmall ts) : EV prog cfg 37 [.agg [.sl (rowsII ts)], .agg [.sl (rowsII ts)]] [] = some (.bool true, []) := by
  (refine EV_k rfl func37 (by rw [f37]) (by rw [f37]; rfl) (by rw [f37]; rfl) ?_; rw [ntmps37]; (conv => lhs; whnf))
  (refine vuK_of (v_call rfl rfl (ev_eqIntSS ts ht.1 ht.2) rfl rfl) ?_; (conv => lhs; whnf))
  rfl
end Go.Proofs.Tryz
