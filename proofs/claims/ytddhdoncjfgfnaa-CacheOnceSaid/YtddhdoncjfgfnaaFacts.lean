/-
  Layer 15: facts on the program's types and functions. No condition.
-/
import Derived.Test.YtddhdoncjfgfnaaTree
import Derived.Test.YtddhdoncjfgfnaaMore
import Derived.Test.YtddhdoncjfgfnaaMaps
import Derived.Test.YtddhdoncjfgfnaaSlices
import Derived.Test.YtddhdoncjfgfnaaRows
namespace Go.Proofs.Ytddhdoncjfgfnaa
open Go.Eng

theorem cb7 : callB Try.prog 7 = true := by kernel_rfl
theorem cb8 : callB Try.prog 8 = true := by kernel_rfl
theorem cb9 : callB Try.prog 9 = true := by kernel_rfl
theorem cb10 : callB Try.prog 10 = true := by kernel_rfl
theorem cb11 : callB Try.prog 11 = true := by kernel_rfl
theorem cb12 : callB Try.prog 12 = true := by kernel_rfl
theorem cb13 : callB Try.prog 13 = true := by kernel_rfl
theorem cb14 : callB Try.prog 14 = true := by kernel_rfl
theorem cb15 : callB Try.prog 15 = true := by kernel_rfl
theorem cb16 : callB Try.prog 16 = true := by kernel_rfl
theorem cb17 : callB Try.prog 17 = true := by kernel_rfl
theorem cb18 : callB Try.prog 18 = true := by kernel_rfl
theorem cb19 : callB Try.prog 19 = true := by kernel_rfl
theorem cb20 : callB Try.prog 20 = true := by kernel_rfl
theorem cb21 : callB Try.prog 21 = true := by kernel_rfl
theorem cb22 : callB Try.prog 22 = true := by kernel_rfl
theorem cb23 : callB Try.prog 23 = true := by kernel_rfl
theorem cb24 : callB Try.prog 24 = true := by kernel_rfl
theorem cb25 : callB Try.prog 25 = true := by kernel_rfl
theorem cb26 : callB Try.prog 26 = true := by kernel_rfl
theorem cb27 : callB Try.prog 27 = true := by kernel_rfl
theorem cb28 : callB Try.prog 28 = true := by kernel_rfl
theorem cb29 : callB Try.prog 29 = true := by kernel_rfl
theorem cb30 : callB Try.prog 30 = true := by kernel_rfl
theorem cb31 : callB Try.prog 31 = true := by kernel_rfl
theorem cb32 : callB Try.prog 32 = true := by kernel_rfl
theorem cb33 : callB Try.prog 33 = true := by kernel_rfl
theorem cb34 : callB Try.prog 34 = true := by kernel_rfl
theorem cb35 : callB Try.prog 35 = true := by kernel_rfl
theorem cb36 : callB Try.prog 36 = true := by kernel_rfl
theorem cb38 : callB Try.prog 38 = true := by kernel_rfl
theorem cb40 : callB Try.prog 40 = true := by kernel_rfl
theorem cb41 : callB Try.prog 41 = true := by kernel_rfl
theorem cb42 : callB Try.prog 42 = true := by kernel_rfl
theorem cb43 : callB Try.prog 43 = true := by kernel_rfl
theorem cb44 : callB Try.prog 44 = true := by kernel_rfl
theorem cb45 : callB Try.prog 45 = true := by kernel_rfl
theorem cb46 : callB Try.prog 46 = true := by kernel_rfl
theorem cb47 : callB Try.prog 47 = true := by kernel_rfl
theorem fa33_0 : faOf Try.prog 33 0 = some 0 := by kernel_rfl
theorem fa33_1 : faOf Try.prog 33 1 = some 10 := by kernel_rfl
theorem fa33_2 : faOf Try.prog 33 2 = some 11 := by kernel_rfl
theorem fa33_3 : faOf Try.prog 33 3 = some 12 := by kernel_rfl
theorem fa33_4 : faOf Try.prog 33 4 = some 13 := by kernel_rfl
theorem fa33_5 : faOf Try.prog 33 5 = some 14 := by kernel_rfl
theorem fa33_6 : faOf Try.prog 33 6 = some 15 := by kernel_rfl
theorem fa33_7 : faOf Try.prog 33 7 = some 16 := by kernel_rfl
theorem fa39_0 : faOf Try.prog 39 0 = some 0 := by kernel_rfl
theorem fa39_1 : faOf Try.prog 39 1 = some 1 := by kernel_rfl
theorem fa39_2 : faOf Try.prog 39 2 = some 2 := by kernel_rfl
theorem fa39_3 : faOf Try.prog 39 3 = some 3 := by kernel_rfl
theorem fa39_4 : faOf Try.prog 39 4 = some 4 := by kernel_rfl
theorem fa50_0 : faOf Try.prog 50 0 = some 0 := by kernel_rfl
theorem fa50_1 : faOf Try.prog 50 1 = some 1 := by kernel_rfl
theorem fa50_2 : faOf Try.prog 50 2 = some 18 := by kernel_rfl
theorem fa50_3 : faOf Try.prog 50 3 = some 19 := by kernel_rfl
theorem fa50_4 : faOf Try.prog 50 4 = some 20 := by kernel_rfl
theorem fa58_0 : faOf Try.prog 58 0 = some 0 := by kernel_rfl
theorem fa58_1 : faOf Try.prog 58 1 = some 1 := by kernel_rfl
theorem fa58_2 : faOf Try.prog 58 2 = some 2 := by kernel_rfl
theorem fa58_3 : faOf Try.prog 58 3 = some 3 := by kernel_rfl
theorem fa58_4 : faOf Try.prog 58 4 = some 4 := by kernel_rfl
theorem fa58_5 : faOf Try.prog 58 5 = some 5 := by kernel_rfl
theorem fa58_6 : faOf Try.prog 58 6 = some 6 := by kernel_rfl
theorem fa60_0 : faOf Try.prog 60 0 = some 0 := by kernel_rfl
theorem fa60_1 : faOf Try.prog 60 1 = some 1 := by kernel_rfl
theorem fa65_0 : faOf Try.prog 65 0 = some 0 := by kernel_rfl
theorem fa65_1 : faOf Try.prog 65 1 = some 1 := by kernel_rfl
theorem fa65_2 : faOf Try.prog 65 2 = some 2 := by kernel_rfl
theorem fa65_3 : faOf Try.prog 65 3 = some 3 := by kernel_rfl
theorem fa65_4 : faOf Try.prog 65 4 = some 4 := by kernel_rfl
theorem fa65_5 : faOf Try.prog 65 5 = some 5 := by kernel_rfl
theorem fa65_6 : faOf Try.prog 65 6 = some 6 := by kernel_rfl
theorem fa65_7 : faOf Try.prog 65 7 = some 7 := by kernel_rfl
theorem fa76_0 : faOf Try.prog 76 0 = some 0 := by kernel_rfl
theorem fa76_1 : faOf Try.prog 76 1 = some 1 := by kernel_rfl
theorem fa76_2 : faOf Try.prog 76 2 = some 2 := by kernel_rfl
theorem fa76_3 : faOf Try.prog 76 3 = some 3 := by kernel_rfl
theorem fa76_4 : faOf Try.prog 76 4 = some 4 := by kernel_rfl
theorem fa78_0 : faOf Try.prog 78 0 = some 0 := by kernel_rfl
theorem fa78_1 : faOf Try.prog 78 1 = some 1 := by kernel_rfl
theorem fa87_0 : faOf Try.prog 87 0 = some 0 := by kernel_rfl
theorem fa100_0 : faOf Try.prog 100 0 = some 0 := by kernel_rfl
theorem fa100_1 : faOf Try.prog 100 1 = some 1 := by kernel_rfl
theorem fa100_2 : faOf Try.prog 100 2 = some 2 := by kernel_rfl
theorem fa100_3 : faOf Try.prog 100 3 = some 3 := by kernel_rfl
theorem sl27 : slOf Try.prog 27 = some (3, 1, 8) := by kernel_rfl
theorem sl28 : slOf Try.prog 28 = some (39, 5, 56) := by kernel_rfl
theorem sl29 : slOf Try.prog 29 = some (76, 5, 56) := by kernel_rfl
theorem sl30 : slOf Try.prog 30 = some (78, 2, 32) := by kernel_rfl
theorem sl31 : slOf Try.prog 31 = some (93, 4, 32) := by kernel_rfl
theorem sl44 : slOf Try.prog 44 = some (33, 17, 216) := by kernel_rfl
theorem sl45 : slOf Try.prog 45 = some (26, 10, 80) := by kernel_rfl
theorem sl48 : slOf Try.prog 48 = some (50, 21, 248) := by kernel_rfl
theorem sl55 : slOf Try.prog 55 = some (60, 18, 224) := by kernel_rfl
theorem sl56 : slOf Try.prog 56 = some (100, 4, 32) := by kernel_rfl
theorem sl66 : slOf Try.prog 66 = some (36, 1, 8) := by kernel_rfl
theorem ty2 : tyOf Try.prog 2 = some (false, 1, [.int .i64 0]) := by kernel_rfl
theorem ty3 : tyOf Try.prog 3 = some (false, 1, [.int .i64 0]) := by kernel_rfl
theorem ty26 : tyOf Try.prog 26 = some (true, 10, [.int .i64 0, .int .i64 0, .int .i64 0, .int .i64 0, .int .i64 0, .int .i64 0, .int .i64 0, .int .i64 0, .int .i64 0, .int .i64 0]) := by kernel_rfl
theorem ty27 : tyOf Try.prog 27 = some (false, 1, [.slice none 0 0]) := by kernel_rfl
theorem ty28 : tyOf Try.prog 28 = some (false, 1, [.slice none 0 0]) := by kernel_rfl
theorem ty29 : tyOf Try.prog 29 = some (false, 1, [.slice none 0 0]) := by kernel_rfl
theorem ty30 : tyOf Try.prog 30 = some (false, 1, [.slice none 0 0]) := by kernel_rfl
theorem ty31 : tyOf Try.prog 31 = some (false, 1, [.slice none 0 0]) := by kernel_rfl
theorem ty33 : tyOf Try.prog 33 = some (true, 17, [.int .i64 0, .int .i64 0, .int .i64 0, .int .i64 0, .int .i64 0, .int .i64 0, .int .i64 0, .int .i64 0, .int .i64 0, .int .i64 0, .int .i64 0, .int .i64 0, .slice none 0 0, .slice none 0 0, .slice none 0 0, .slice none 0 0, .slice none 0 0]) := by kernel_rfl
theorem ty36 : tyOf Try.prog 36 = some (false, 1, [.pointer none]) := by kernel_rfl
theorem ty39 : tyOf Try.prog 39 = some (true, 5, [.int .i64 0, .slice none 0 0, .int .i64 0, .int .i64 0, .int .i64 0]) := by kernel_rfl
theorem ty50 : tyOf Try.prog 50 = some (true, 21, [.int .i64 0, .int .i64 0, .int .i64 0, .int .i64 0, .int .i64 0, .int .i64 0, .int .i64 0, .int .i64 0, .int .i64 0, .int .i64 0, .int .i64 0, .int .i64 0, .int .i64 0, .slice none 0 0, .slice none 0 0, .slice none 0 0, .slice none 0 0, .slice none 0 0, .int .i64 0, .int .i64 0, .int .i64 0]) := by kernel_rfl
theorem ty55 : tyOf Try.prog 55 = some (false, 1, [.slice none 0 0]) := by kernel_rfl
theorem ty56 : tyOf Try.prog 56 = some (false, 1, [.slice none 0 0]) := by kernel_rfl
theorem ty58 : tyOf Try.prog 58 = some (true, 7, [.slice none 0 0, .slice none 0 0, .int .i64 0, .slice none 0 0, .int .i64 0, .int .i64 0, .int .i64 0]) := by kernel_rfl
theorem ty60 : tyOf Try.prog 60 = some (true, 18, [.int .i64 0, .int .i64 0, .int .i64 0, .int .i64 0, .int .i64 0, .int .i64 0, .int .i64 0, .int .i64 0, .int .i64 0, .int .i64 0, .int .i64 0, .int .i64 0, .int .i64 0, .slice none 0 0, .slice none 0 0, .slice none 0 0, .slice none 0 0, .slice none 0 0]) := by kernel_rfl
theorem ty62 : tyOf Try.prog 62 = some (false, 1, [.map none]) := by kernel_rfl
theorem ty63 : tyOf Try.prog 63 = some (false, 1, [.map none]) := by kernel_rfl
theorem ty65 : tyOf Try.prog 65 = some (true, 8, [.map none, .slice none 0 0, .map none, .map none, .int .i64 0, .slice none 0 0, .int .i64 0, .int .i64 0]) := by kernel_rfl
theorem ty76 : tyOf Try.prog 76 = some (true, 5, [.int .i64 0, .int .i64 0, .int .i64 0, .int .i64 0, .slice none 0 0]) := by kernel_rfl
theorem ty78 : tyOf Try.prog 78 = some (true, 2, [.int .i64 0, .slice none 0 0]) := by kernel_rfl
theorem ty87 : tyOf Try.prog 87 = some (true, 2, [.int .i64 0, .int .i64 0]) := by kernel_rfl
theorem ty93 : tyOf Try.prog 93 = some (true, 4, [.int .i64 0, .int .i64 0, .int .i64 0, .int .i64 0]) := by kernel_rfl
theorem ty100 : tyOf Try.prog 100 = some (true, 4, [.int .i64 0, .int .i64 0, .int .i64 0, .int .i64 0]) := by kernel_rfl
theorem cb37 : callB Try.prog 37 = true := by kernel_rfl
theorem cb39 : callB Try.prog 39 = true := by kernel_rfl

theorem Try.mixed : Try.prog.follows .mixedOrders = true := by kernel_rfl
theorem flat26 : flat Try.prog 5 26 10 = true := by kernel_rfl
theorem flat87 : flat Try.prog 5 87 2 = true := by kernel_rfl
theorem flat93 : flat Try.prog 5 93 4 = true := by kernel_rfl
theorem fd33_0 : fdOf Try.prog 33 0 = some (26, 0) := by kernel_rfl
abbrev Ky := Vector Int 10
abbrev Sc := Vector Int 4
abbrev V2 := Vector Int 2
theorem KT3 : KT Try.prog 3 encI := KT.int Try.underlying3
theorem KT87 : KT Try.prog 87 (encV (n := 2)) := KT.struct Try.underlying87 flat87 (by decide)
theorem zero3 (w : World) : (zeroValue 3).run Try.prog w = .ok (encI 0) w := by kernel_rfl
theorem wrap_small {a : Int} (h0 : -9223372036854775808 ≤ a) (h1 : a ≤ 9223372036854775807) : IntKind.i64.wrap a = a := by
  show (if (true && decide (a % 18446744073709551616 ≥ 9223372036854775808)) = true then a % 18446744073709551616 - 18446744073709551616 else a % 18446744073709551616) = a
  simp only [Bool.true_and, ge_iff_le, decide_eq_true_eq]
  split <;> omega
theorem ic_all (l : List Int) : ((ic l).drop 0).take (ic l).length = ic l := by rw [List.drop_zero, List.take_length]
theorem spl_all {cs vs : List Value} (h : vs.length = cs.length) : spl cs 0 vs = vs := by
  unfold spl
  rw [List.drop_of_length_le (by omega)]
  simp

end Go.Proofs.Ytddhdoncjfgfnaa
