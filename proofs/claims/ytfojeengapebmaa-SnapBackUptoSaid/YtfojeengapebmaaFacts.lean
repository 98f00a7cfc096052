/-
  Layer 17: facts on the program's types and functions. No condition.
-/
import Derived.Test.YtfojeengapebmaaTree
import Derived.Test.YtfojeengapebmaaMore
import Derived.Test.YtfojeengapebmaaRows
namespace Go.Proofs.Ytfojeengapebmaa
open Go.Eng

theorem cb7 : callB Try.prog 7 = true := by kernel_rfl
theorem cb8 : callB Try.prog 8 = true := by kernel_rfl
theorem cb9 : callB Try.prog 9 = true := by kernel_rfl
theorem cb10 : callB Try.prog 10 = true := by kernel_rfl
theorem cb11 : callB Try.prog 11 = true := by kernel_rfl
theorem cb12 : callB Try.prog 12 = true := by kernel_rfl
theorem cb13 : callB Try.prog 13 = true := by kernel_rfl
theorem cb14 : callB Try.prog 14 = true := by kernel_rfl
theorem cb15 : callB Try.prog 15 = true := by kernel_rfl
theorem cb16 : callB Try.prog 16 = true := by kernel_rfl
theorem cb20 : callB Try.prog 20 = true := by kernel_rfl
theorem cb21 : callB Try.prog 21 = true := by kernel_rfl
theorem cb22 : callB Try.prog 22 = true := by kernel_rfl
theorem cb23 : callB Try.prog 23 = true := by kernel_rfl
theorem cb24 : callB Try.prog 24 = true := by kernel_rfl
theorem cb25 : callB Try.prog 25 = true := by kernel_rfl
theorem fa30_0 : faOf Try.prog 30 0 = some 0 := by kernel_rfl
theorem fa39_0 : faOf Try.prog 39 0 = some 0 := by kernel_rfl
theorem fa39_1 : faOf Try.prog 39 1 = some 1 := by kernel_rfl
theorem fa39_2 : faOf Try.prog 39 2 = some 2 := by kernel_rfl
theorem fa39_3 : faOf Try.prog 39 3 = some 3 := by kernel_rfl
theorem fa39_4 : faOf Try.prog 39 4 = some 4 := by kernel_rfl
theorem fa51_3 : faOf Try.prog 51 3 = some 12 := by kernel_rfl
theorem fa51_4 : faOf Try.prog 51 4 = some 13 := by kernel_rfl
theorem fa51_5 : faOf Try.prog 51 5 = some 14 := by kernel_rfl
theorem fa51_6 : faOf Try.prog 51 6 = some 15 := by kernel_rfl
theorem fa51_7 : faOf Try.prog 51 7 = some 16 := by kernel_rfl
theorem fa62_0 : faOf Try.prog 62 0 = some 0 := by kernel_rfl
theorem fa62_1 : faOf Try.prog 62 1 = some 1 := by kernel_rfl
theorem fa62_2 : faOf Try.prog 62 2 = some 2 := by kernel_rfl
theorem fa74_1 : faOf Try.prog 74 1 = some 1 := by kernel_rfl
theorem fa76_1 : faOf Try.prog 76 1 = some 1 := by kernel_rfl
theorem sl22 : slOf Try.prog 22 = some (28, 1, 24) := by kernel_rfl
theorem sl28 : slOf Try.prog 28 = some (39, 5, 56) := by kernel_rfl
theorem sl35 : slOf Try.prog 35 = some (3, 1, 8) := by kernel_rfl
theorem sl37 : slOf Try.prog 37 = some (69, 4, 32) := by kernel_rfl
theorem sl41 : slOf Try.prog 41 = some (76, 2, 32) := by kernel_rfl
theorem sl49 : slOf Try.prog 49 = some (74, 5, 56) := by kernel_rfl
theorem ty3 : tyOf Try.prog 3 = some (false, 1, [.int .i64 0]) := by kernel_rfl
theorem ty28 : tyOf Try.prog 28 = some (false, 1, [.slice none 0 0]) := by kernel_rfl
theorem ty30 : tyOf Try.prog 30 = some (true, 1, [.slice none 0 0]) := by kernel_rfl
theorem ty35 : tyOf Try.prog 35 = some (false, 1, [.slice none 0 0]) := by kernel_rfl
theorem ty37 : tyOf Try.prog 37 = some (false, 1, [.slice none 0 0]) := by kernel_rfl
theorem ty39 : tyOf Try.prog 39 = some (true, 5, [.int .i64 0, .int .i64 0, .int .i64 0, .int .i64 0, .slice none 0 0]) := by kernel_rfl
theorem ty41 : tyOf Try.prog 41 = some (false, 1, [.slice none 0 0]) := by kernel_rfl
theorem ty49 : tyOf Try.prog 49 = some (false, 1, [.slice none 0 0]) := by kernel_rfl
theorem ty51 : tyOf Try.prog 51 = some (true, 17, [.int .i64 0, .int .i64 0, .int .i64 0, .int .i64 0, .int .i64 0, .int .i64 0, .int .i64 0, .int .i64 0, .int .i64 0, .int .i64 0, .int .i64 0, .int .i64 0, .slice none 0 0, .slice none 0 0, .slice none 0 0, .slice none 0 0, .slice none 0 0]) := by kernel_rfl
theorem ty59 : tyOf Try.prog 59 = some (false, 1, [.map none]) := by kernel_rfl
theorem ty60 : tyOf Try.prog 60 = some (false, 1, [.map none]) := by kernel_rfl
theorem ty62 : tyOf Try.prog 62 = some (true, 3, [.slice none 0 0, .map none, .map none]) := by kernel_rfl
theorem ty65 : tyOf Try.prog 65 = some (true, 5, [.int .i64 0, .int .i64 0, .int .i64 0, .int .i64 0, .int .i64 0]) := by kernel_rfl
theorem ty69 : tyOf Try.prog 69 = some (true, 4, [.int .i64 0, .int .i64 0, .int .i64 0, .int .i64 0]) := by kernel_rfl
theorem ty74 : tyOf Try.prog 74 = some (true, 5, [.int .i64 0, .slice none 0 0, .int .i64 0, .int .i64 0, .int .i64 0]) := by kernel_rfl
theorem ty76 : tyOf Try.prog 76 = some (true, 2, [.int .i64 0, .slice none 0 0]) := by kernel_rfl
theorem ty89 : tyOf Try.prog 89 = some (true, 5, [.int .i64 0, .int .i64 0, .int .i64 0, .int .i64 0, .int .i64 0]) := by kernel_rfl

theorem Try.mixed : Try.prog.follows .mixedOrders = true := by kernel_rfl
theorem flat65 : flat Try.prog 5 65 5 = true := by kernel_rfl
theorem flat89 : flat Try.prog 5 89 5 = true := by kernel_rfl
theorem flat69 : flat Try.prog 5 69 4 = true := by kernel_rfl
theorem KT65 : KT Try.prog 65 (encV (n := 5)) := KT.struct Try.underlying65 flat65 (by decide)
theorem KT89 : KT Try.prog 89 (encV (n := 5)) := KT.struct Try.underlying89 flat89 (by decide)
theorem zero3 (w : World) : (zeroValue 3).run Try.prog w = .ok (encI 0) w := by kernel_rfl
theorem wrap_small {a : Int} (h0 : -9223372036854775808 ≤ a) (h1 : a ≤ 9223372036854775807) : IntKind.i64.wrap a = a := by
  show (if (true && decide (a % 18446744073709551616 ≥ 9223372036854775808)) = true then a % 18446744073709551616 - 18446744073709551616 else a % 18446744073709551616) = a
  simp only [Bool.true_and, ge_iff_le, decide_eq_true_eq]
  split <;> omega
theorem max4000 : 4000 ≤ maxLen := by decide +kernel
theorem ic_all (l : List Int) : ((ic l).drop 0).take (ic l).length = ic l := by rw [List.drop_zero, List.take_length]
theorem spl_all {cs vs : List Value} (h : vs.length = cs.length) : spl cs 0 vs = vs := by
  unfold spl
  rw [List.drop_of_length_le (by omega)]
  simp

end Go.Proofs.Ytfojeengapebmaa
