/- What the arguments of this program's laws are. -/
import Derived.Test.YtkbeimibpeofbaaGreatSimZD
import Derived.Test.YtkbeimibpeofbaaGreatFnL
namespace Go.Proofs.Tryz
open Go Go.Sim Go.Braid
section
variable {H : Type} {enc : TypeId × Value → H} {W : World}

theorem TmMaxL_of : ∀ {ks : List Tm}, (∀ k ∈ ks, TmMax k) → TmMaxL ks
  | [], _ => by rw [TmMaxL]; trivial
  | k :: ks, h => by
    rw [TmMaxL]
    exact ⟨h k (List.mem_cons_self ..), TmMaxL_of fun x hx => h x (List.mem_cons_of_mem _ hx)⟩

theorem rd_term : ∀ n, Rd enc prog W 173 n TmMax cellsT := by
  intro n
  induction n using Nat.strongRecOn with
  | ind n ih =>
    intro cs x hx
    obtain ⟨⟨f, v, ks⟩, ⟨_, _, h1, h2⟩, h3⟩ := rd_struct3 n underlying173 rfl (by kernel_rfl) (by kernel_rfl) (by kernel_rfl) (fun m _ => rd_int m underlying3) (fun m _ => rd_int m underlying3)
      (fun m hm => rd_slice m underlying171 (k := 3) (by kernel_rfl) (by omega) (fun a => rfl) (fun m' hm' => ih m' (by omega))) cs x hx
    refine ⟨.mk f v ks, ?_, ?_⟩
    · rw [TmMax]
      exact ⟨by simpa [maxLen] using h1, TmMaxL_of h2⟩
    · have h3 : RdL W ([AV.int .i64 f] ++ ([AV.int .i64 v] ++ [AV.sl (ks.map cellsT)])) cs := h3
      rw [← rowsT_map] at h3
      exact h3

theorem rd_sym (n : Nat) : Rd enc prog W 126 n (fun y : Sym => MaxL y.name.size) cellsS := by
  intro cs x hx
  obtain ⟨⟨a, b, c⟩, ⟨h1, _, _⟩, h3⟩ := rd_struct3 n underlying126 rfl (by kernel_rfl) (by kernel_rfl) (by kernel_rfl) (fun m _ => rd_str m underlying9) (fun m _ => rd_int m underlying3) (fun m _ => rd_bool m underlying4) cs x hx
  exact ⟨⟨a, b, c⟩, by simpa [maxLen] using h1, h3⟩

theorem rd_lit (n : Nat) : Rd enc prog W 175 n LtMax cellsL := by
  intro cs x hx
  obtain ⟨⟨a, b, c⟩, ⟨_, h1, h2⟩, h3⟩ := rd_struct3 n underlying175 rfl (by kernel_rfl) (by kernel_rfl) (by kernel_rfl) (fun m _ => rd_bool m underlying4) (fun m _ => rd_term m) (fun m _ => rd_term m) cs x hx
  exact ⟨⟨a, b, c⟩, ⟨h1, h2⟩, h3⟩

theorem rd_sig (n : Nat) : Rd enc prog W 52 n (fun s : List Sym => MaxL s.length ∧ ∀ y ∈ s, MaxL y.name.size) (fun s => [.sl (rowsS s)]) := by
  intro cs x hx
  obtain ⟨s, ⟨h1, h2⟩, h3⟩ := rd_slice n underlying52 (k := 3) (by kernel_rfl) (by omega) (fun a => rfl) (fun m _ => rd_sym m) cs x hx
  exact ⟨s, ⟨by simpa [maxLen] using h1, h2⟩, h3⟩

theorem rd_ints (n : Nat) : Rd enc prog W 28 n (fun l : List Int => MaxL l.length) (fun l => [.sl (rowsI l)]) := by
  intro cs x hx
  obtain ⟨s, ⟨h1, _⟩, h3⟩ := rd_slice n underlying28 (k := 1) (by kernel_rfl) (by omega) (fun a => rfl) (fun m _ => rd_int m underlying3) cs x hx
  exact ⟨s, by simpa [maxLen] using h1, h3⟩

theorem rd_intss (n : Nat) : Rd enc prog W 25 n (fun l : List (List Int) => MaxL l.length ∧ ∀ t ∈ l, MaxL t.length) (fun l => [.sl (rowsII l)]) := by
  intro cs x hx
  obtain ⟨s, ⟨h1, h2⟩, h3⟩ := rd_slice n underlying25 (k := 1) (by kernel_rfl) (by omega) (fun a => rfl) (fun m _ => rd_ints m) cs x hx
  exact ⟨s, ⟨by simpa [maxLen] using h1, h2⟩, h3⟩

theorem rd_lits (n : Nat) : Rd enc prog W 54 n (fun l : List Lt => MaxL l.length ∧ ∀ t ∈ l, LtMax t) (fun l => [.sl (rowsL l)]) := by
  intro cs x hx
  obtain ⟨s, ⟨h1, h2⟩, h3⟩ := rd_slice n underlying54 (k := 7) (by kernel_rfl) (by omega) (fun a => rfl) (fun m _ => rd_lit m) cs x hx
  exact ⟨s, ⟨by simpa [maxLen] using h1, h2⟩, h3⟩
end
end Go.Proofs.Tryz
