/- The types of this seat. Printed by a program (gentab.py). -/
import Derived.Test.YtkbeimibpeofbaaGreatSimZC
import Derived.Test.YtkbeimibpeofbaaGreatProg
import Derived.KernelRfl
namespace Go.Proofs.Tryz
open Go Go.Sim

def tab : Tab := [
  (3, ⟨.int .i64, 1, 8, [.int .i64 0], false⟩),
  (4, ⟨.bool, 1, 1, [.bool false], false⟩),
  (9, ⟨.str, 1, 16, [.str ByteArray.empty], false⟩),
  (5, ⟨.int .u8, 1, 1, [.int .u8 0], false⟩),
  (22, ⟨.slice 5, 1, 24, [.nils], false⟩),
  (24, ⟨.slice 110, 1, 24, [.nils], false⟩),
  (25, ⟨.slice 28, 1, 24, [.nils], false⟩),
  (27, ⟨.struct [(0, 3), (1, 25)], 2, 32, [.int .i64 0, .nils], false⟩),
  (28, ⟨.slice 3, 1, 24, [.nils], false⟩),
  (31, ⟨.slice 74, 1, 24, [.nils], false⟩),
  (33, ⟨.struct [(0, 31)], 1, 24, [.nils], false⟩),
  (46, ⟨.struct [(0, 25)], 1, 24, [.nils], false⟩),
  (52, ⟨.slice 126, 1, 24, [.nils], false⟩),
  (53, ⟨.struct [(0, 25)], 1, 24, [.nils], false⟩),
  (54, ⟨.slice 175, 1, 24, [.nils], false⟩),
  (56, ⟨.struct [(0, 54)], 1, 24, [.nils], false⟩),
  (70, ⟨.slice 72, 1, 24, [.nils], false⟩),
  (72, ⟨.struct [(0, 3), (1, 3), (2, 70)], 3, 40, [.int .i64 0, .int .i64 0, .nils], false⟩),
  (74, ⟨.struct [(0, 4), (1, 72), (4, 72)], 7, 88, [.bool false, .int .i64 0, .int .i64 0, .nils, .int .i64 0, .int .i64 0, .nils], false⟩),
  (76, ⟨.struct [(0, 3), (1, 25)], 2, 32, [.int .i64 0, .nils], false⟩),
  (110, ⟨.struct [(0, 9), (1, 3), (2, 4)], 3, 32, [.str ByteArray.empty, .int .i64 0, .bool false], true⟩),
  (126, ⟨.struct [(0, 9), (1, 3), (2, 4)], 3, 32, [.str ByteArray.empty, .int .i64 0, .bool false], true⟩),
  (153, ⟨.struct [(0, 22), (1, 3), (2, 3)], 3, 40, [.nils, .int .i64 0, .int .i64 0], false⟩),
  (171, ⟨.slice 173, 1, 24, [.nils], false⟩),
  (173, ⟨.struct [(0, 3), (1, 3), (2, 171)], 3, 40, [.int .i64 0, .int .i64 0, .nils], false⟩),
  (175, ⟨.struct [(0, 4), (1, 173), (4, 173)], 7, 88, [.bool false, .int .i64 0, .int .i64 0, .nils, .int .i64 0, .int .i64 0, .nils], false⟩),
  (182, ⟨.slice 9, 1, 24, [.nils], false⟩),
  (194, ⟨.int .u64, 1, 8, [.int .u64 0], false⟩),
  (197, ⟨.array 2 3, 2, 16, [.int .i64 0, .int .i64 0], false⟩),
  (198, ⟨.slice 197, 1, 24, [.nils], false⟩)]

theorem ti3 : TIok prog 3 ⟨.int .i64, 1, 8, [.int .i64 0], false⟩ := TI_of type3 rfl rfl rfl underlying3 rfl rfl rfl rfl (fun h => nomatch h)
theorem ti4 : TIok prog 4 ⟨.bool, 1, 1, [.bool false], false⟩ := TI_of type4 rfl rfl rfl underlying4 rfl rfl rfl rfl (fun h => nomatch h)
theorem ti9 : TIok prog 9 ⟨.str, 1, 16, [.str ByteArray.empty], false⟩ := TI_of type9 rfl rfl rfl underlying9 rfl rfl rfl rfl (fun h => nomatch h)
theorem ti5 : TIok prog 5 ⟨.int .u8, 1, 1, [.int .u8 0], false⟩ := TI_of type5 rfl rfl rfl underlying5 rfl rfl rfl rfl (fun h => nomatch h)
theorem ti22 : TIok prog 22 ⟨.slice 5, 1, 24, [.nils], false⟩ := TI_of type22 rfl rfl rfl underlying22 rfl rfl rfl rfl (fun h => nomatch h)
theorem ti24 : TIok prog 24 ⟨.slice 110, 1, 24, [.nils], false⟩ := TI_of type24 rfl rfl rfl underlying24 rfl rfl rfl rfl (fun h => nomatch h)
theorem ti25 : TIok prog 25 ⟨.slice 28, 1, 24, [.nils], false⟩ := TI_of type25 rfl rfl rfl underlying25 rfl rfl rfl rfl (fun h => nomatch h)
theorem ti27 : TIok prog 27 ⟨.struct [(0, 3), (1, 25)], 2, 32, [.int .i64 0, .nils], false⟩ := TI_of type27 rfl rfl rfl underlying27 ⟨_, rfl, rfl⟩ rfl rfl rfl (fun h => nomatch h)
theorem ti28 : TIok prog 28 ⟨.slice 3, 1, 24, [.nils], false⟩ := TI_of type28 rfl rfl rfl underlying28 rfl rfl rfl rfl (fun h => nomatch h)
theorem ti31 : TIok prog 31 ⟨.slice 74, 1, 24, [.nils], false⟩ := TI_of type31 rfl rfl rfl underlying31 rfl rfl rfl rfl (fun h => nomatch h)
theorem ti33 : TIok prog 33 ⟨.struct [(0, 31)], 1, 24, [.nils], false⟩ := TI_of type33 rfl rfl rfl underlying33 ⟨_, rfl, rfl⟩ rfl rfl rfl (fun h => nomatch h)
theorem ti46 : TIok prog 46 ⟨.struct [(0, 25)], 1, 24, [.nils], false⟩ := TI_of type46 rfl rfl rfl underlying46 ⟨_, rfl, rfl⟩ rfl rfl rfl (fun h => nomatch h)
theorem ti52 : TIok prog 52 ⟨.slice 126, 1, 24, [.nils], false⟩ := TI_of type52 rfl rfl rfl underlying52 rfl rfl rfl rfl (fun h => nomatch h)
theorem ti53 : TIok prog 53 ⟨.struct [(0, 25)], 1, 24, [.nils], false⟩ := TI_of type53 rfl rfl rfl underlying53 ⟨_, rfl, rfl⟩ rfl rfl rfl (fun h => nomatch h)
theorem ti54 : TIok prog 54 ⟨.slice 175, 1, 24, [.nils], false⟩ := TI_of type54 rfl rfl rfl underlying54 rfl rfl rfl rfl (fun h => nomatch h)
theorem ti56 : TIok prog 56 ⟨.struct [(0, 54)], 1, 24, [.nils], false⟩ := TI_of type56 rfl rfl rfl underlying56 ⟨_, rfl, rfl⟩ rfl rfl rfl (fun h => nomatch h)
theorem ti70 : TIok prog 70 ⟨.slice 72, 1, 24, [.nils], false⟩ := TI_of type70 rfl rfl rfl underlying70 rfl rfl rfl rfl (fun h => nomatch h)
theorem ti72 : TIok prog 72 ⟨.struct [(0, 3), (1, 3), (2, 70)], 3, 40, [.int .i64 0, .int .i64 0, .nils], false⟩ := TI_of type72 rfl rfl rfl underlying72 ⟨_, rfl, rfl⟩ rfl rfl rfl (fun h => nomatch h)
theorem ti74 : TIok prog 74 ⟨.struct [(0, 4), (1, 72), (4, 72)], 7, 88, [.bool false, .int .i64 0, .int .i64 0, .nils, .int .i64 0, .int .i64 0, .nils], false⟩ := TI_of type74 rfl rfl rfl underlying74 ⟨_, rfl, rfl⟩ rfl rfl rfl (fun h => nomatch h)
theorem ti76 : TIok prog 76 ⟨.struct [(0, 3), (1, 25)], 2, 32, [.int .i64 0, .nils], false⟩ := TI_of type76 rfl rfl rfl underlying76 ⟨_, rfl, rfl⟩ rfl rfl rfl (fun h => nomatch h)
theorem ti110 : TIok prog 110 ⟨.struct [(0, 9), (1, 3), (2, 4)], 3, 32, [.str ByteArray.empty, .int .i64 0, .bool false], true⟩ := TI_of type110 rfl rfl rfl underlying110 ⟨_, rfl, rfl⟩ rfl rfl rfl (fun _ => eqTy_sib underlying110 (by kernel_rfl) underlying9 underlying3 underlying4 rfl rfl rfl (eq_false (by decide)) (eq_false (by decide)) (eq_false (by decide)) (by kernel_rfl) _ _ _)
theorem ti126 : TIok prog 126 ⟨.struct [(0, 9), (1, 3), (2, 4)], 3, 32, [.str ByteArray.empty, .int .i64 0, .bool false], true⟩ := TI_of type126 rfl rfl rfl underlying126 ⟨_, rfl, rfl⟩ rfl rfl rfl (fun _ => eqTy_sib underlying126 (by kernel_rfl) underlying9 underlying3 underlying4 rfl rfl rfl (eq_false (by decide)) (eq_false (by decide)) (eq_false (by decide)) (by kernel_rfl) _ _ _)
theorem ti153 : TIok prog 153 ⟨.struct [(0, 22), (1, 3), (2, 3)], 3, 40, [.nils, .int .i64 0, .int .i64 0], false⟩ := TI_of type153 rfl rfl rfl underlying153 ⟨_, rfl, rfl⟩ rfl rfl rfl (fun h => nomatch h)
theorem ti171 : TIok prog 171 ⟨.slice 173, 1, 24, [.nils], false⟩ := TI_of type171 rfl rfl rfl underlying171 rfl rfl rfl rfl (fun h => nomatch h)
theorem ti173 : TIok prog 173 ⟨.struct [(0, 3), (1, 3), (2, 171)], 3, 40, [.int .i64 0, .int .i64 0, .nils], false⟩ := TI_of type173 rfl rfl rfl underlying173 ⟨_, rfl, rfl⟩ rfl rfl rfl (fun h => nomatch h)
theorem ti175 : TIok prog 175 ⟨.struct [(0, 4), (1, 173), (4, 173)], 7, 88, [.bool false, .int .i64 0, .int .i64 0, .nils, .int .i64 0, .int .i64 0, .nils], false⟩ := TI_of type175 rfl rfl rfl underlying175 ⟨_, rfl, rfl⟩ rfl rfl rfl (fun h => nomatch h)
theorem ti182 : TIok prog 182 ⟨.slice 9, 1, 24, [.nils], false⟩ := TI_of type182 rfl rfl rfl underlying182 rfl rfl rfl rfl (fun h => nomatch h)
theorem ti194 : TIok prog 194 ⟨.int .u64, 1, 8, [.int .u64 0], false⟩ := TI_of type194 rfl rfl rfl underlying194 rfl rfl rfl rfl (fun h => nomatch h)
theorem ti197 : TIok prog 197 ⟨.array 2 3, 2, 16, [.int .i64 0, .int .i64 0], false⟩ := TI_of type197 rfl rfl rfl underlying197 rfl rfl rfl rfl (fun h => nomatch h)
theorem ti198 : TIok prog 198 ⟨.slice 197, 1, 24, [.nils], false⟩ := TI_of type198 rfl rfl rfl underlying198 rfl rfl rfl rfl (fun h => nomatch h)

theorem tab_ok : TabOk prog tab := by
  intro p hp
  simp only [tab, List.mem_cons, List.not_mem_nil, or_false] at hp
  rcases hp with rfl | rfl | rfl | rfl | rfl | rfl | rfl | rfl | rfl | rfl | rfl | rfl | rfl | rfl | rfl | rfl | rfl | rfl | rfl | rfl | rfl | rfl | rfl | rfl | rfl | rfl | rfl | rfl | rfl | rfl
  · exact ti3
  · exact ti4
  · exact ti9
  · exact ti5
  · exact ti22
  · exact ti24
  · exact ti25
  · exact ti27
  · exact ti28
  · exact ti31
  · exact ti33
  · exact ti46
  · exact ti52
  · exact ti53
  · exact ti54
  · exact ti56
  · exact ti70
  · exact ti72
  · exact ti74
  · exact ti76
  · exact ti110
  · exact ti126
  · exact ti153
  · exact ti171
  · exact ti173
  · exact ti175
  · exact ti182
  · exact ti194
  · exact ti197
  · exact ti198

end Go.Proofs.Tryz
