/-
  Layer 17: facts on the types and functions that Encode and Decode use. No condition.
-/
import Derived.Test.YtfojeengapebmaaFacts
namespace Go.Proofs.Ytfojeengapebmaa
open Go.Eng

theorem cb17 : callB Try.prog 17 = true := by kernel_rfl
theorem cb18 : callB Try.prog 18 = true := by kernel_rfl
theorem cb19 : callB Try.prog 19 = true := by kernel_rfl
theorem cb26 : callB Try.prog 26 = true := by kernel_rfl
theorem cb27 : callB Try.prog 27 = true := by kernel_rfl
theorem cb28 : callB Try.prog 28 = true := by kernel_rfl
theorem cb29 : callB Try.prog 29 = true := by kernel_rfl
theorem cb30 : callB Try.prog 30 = true := by kernel_rfl
theorem cb31 : callB Try.prog 31 = true := by kernel_rfl
theorem cb32 : callB Try.prog 32 = true := by kernel_rfl
theorem cb33 : callB Try.prog 33 = true := by kernel_rfl
theorem cb34 : callB Try.prog 34 = true := by kernel_rfl
theorem cb35 : callB Try.prog 35 = true := by kernel_rfl
theorem cb36 : callB Try.prog 36 = true := by kernel_rfl
theorem cb37 : callB Try.prog 37 = true := by kernel_rfl
theorem cb38 : callB Try.prog 38 = true := by kernel_rfl
theorem fa45_0 : faOf Try.prog 45 0 = some 0 := by kernel_rfl
theorem fa45_1 : faOf Try.prog 45 1 = some 1 := by kernel_rfl
theorem fa69_0 : faOf Try.prog 69 0 = some 0 := by kernel_rfl
theorem fa69_1 : faOf Try.prog 69 1 = some 1 := by kernel_rfl
theorem fa69_2 : faOf Try.prog 69 2 = some 3 := by kernel_rfl
theorem fa76_0 : faOf Try.prog 76 0 = some 0 := by kernel_rfl
theorem fa79_0 : faOf Try.prog 79 0 = some 0 := by kernel_rfl
theorem fa85_0 : faOf Try.prog 85 0 = some 0 := by kernel_rfl
theorem fa91_0 : faOf Try.prog 91 0 = some 0 := by kernel_rfl
theorem sl42 : slOf Try.prog 42 = some (5, 1, 1) := by kernel_rfl
theorem ty2 : tyOf Try.prog 2 = some (false, 1, [.int .i64 0]) := by kernel_rfl
theorem ty5 : tyOf Try.prog 5 = some (false, 1, [.int .u8 0]) := by kernel_rfl
theorem ty42 : tyOf Try.prog 42 = some (false, 1, [.slice none 0 0]) := by kernel_rfl
theorem ty45 : tyOf Try.prog 45 = some (true, 2, [.int .i64 0, .int .i64 0]) := by kernel_rfl
theorem ty52 : tyOf Try.prog 52 = some (false, 1, [.int .i64 0]) := by kernel_rfl
theorem ty77 : tyOf Try.prog 77 = some (false, 1, [.pointer none]) := by kernel_rfl
theorem ty79 : tyOf Try.prog 79 = some (true, 1, [.slice none 0 0]) := by kernel_rfl
theorem ty84 : tyOf Try.prog 84 = some (false, 1, [.pointer none]) := by kernel_rfl
theorem ty85 : tyOf Try.prog 85 = some (true, 1, [.slice none 0 0]) := by kernel_rfl
theorem ty91 : tyOf Try.prog 91 = some (true, 1, [.int .i64 0]) := by kernel_rfl

end Go.Proofs.Ytfojeengapebmaa
