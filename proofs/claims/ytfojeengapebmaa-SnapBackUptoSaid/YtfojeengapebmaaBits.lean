/-
  The engine: shifts, bits, conversions of whole numbers. No condition.
-/
import Derived.Test.YtfojeengapebmaaMaps
namespace Go.Eng

section
variable {P : Program} {w : World} {f : Fm} {d : Option Nat} {ty : TypeId} {pos : String} {after : Array Edge} {g : Option (Nat × Bool)}
theorem r_conv {x : Operand} {S T : TypeId} {ds : TypeDesc} {k0 k : IntKind} {n m : Int} (hs : P.underlying S = some ds) (ht : P.underlying T = some (.int k)) (hx : ev f x = .int k0 n) (h : k.wrap n = m) :
    (execOp (ev f) ⟨d, .convert S T x, ty, pos, after, g⟩).run P w = .ok (.value (.int k m)) w := by
  subst h
  have e : (convert S T (.int k0 n)).run P w = .ok (.int k (k.wrap n)) w := by
    simp [convert, run_underlying hs, run_underlying ht, Conv.intToInt]
  simp only [execOp, hx, Sem.run_bind, e, Result.andThen_ok, Sem.run_pure]
theorem r_shl {x y : Operand} {T U : TypeId} {k yk : IntKind} {a c : Int} {b : Nat} (hx : ev f x = .int k a) (hy : ev f y = .int yk (b : Int)) (h : k.wrap (a * 2 ^ (min b k.bits)) = c) :
    (execOp (ev f) ⟨d, .binOp .shl T x y U, ty, pos, after, g⟩).run P w = .ok (.value (.int k c)) w := by
  subst h
  have hb : ¬ (b : Int) < 0 := by omega
  simp [execOp, hx, hy, eqGuard, binOp, Op.shift, hb]
theorem r_shr {x y : Operand} {T U : TypeId} {k yk : IntKind} {a c : Int} {b : Nat} (hx : ev f x = .int k a) (hy : ev f y = .int yk (b : Int)) (h : a.fdiv (2 ^ (min b k.bits)) = c) :
    (execOp (ev f) ⟨d, .binOp .shr T x y U, ty, pos, after, g⟩).run P w = .ok (.value (.int k c)) w := by
  subst h
  have hb : ¬ (b : Int) < 0 := by omega
  simp [execOp, hx, hy, eqGuard, binOp, Op.shift, hb]
theorem r_or {x y : Operand} {T U : TypeId} {k : IntKind} {a b c : Int} (hx : ev f x = .int k a) (hy : ev f y = .int k b) (h : k.wrap ((BitVec.ofInt k.bits a ||| BitVec.ofInt k.bits b).toNat : Int) = c) :
    (execOp (ev f) ⟨d, .binOp .or T x y U, ty, pos, after, g⟩).run P w = .ok (.value (.int k c)) w := by
  subst h; simp [execOp, hx, hy, eqGuard, binOp, Op.intBits]
theorem r_and {x y : Operand} {T U : TypeId} {k : IntKind} {a b c : Int} (hx : ev f x = .int k a) (hy : ev f y = .int k b) (h : k.wrap ((BitVec.ofInt k.bits a &&& BitVec.ofInt k.bits b).toNat : Int) = c) :
    (execOp (ev f) ⟨d, .binOp .and T x y U, ty, pos, after, g⟩).run P w = .ok (.value (.int k c)) w := by
  subst h; simp [execOp, hx, hy, eqGuard, binOp, Op.intBits]
theorem r_xor {x y : Operand} {T U : TypeId} {k : IntKind} {a b c : Int} (hx : ev f x = .int k a) (hy : ev f y = .int k b) (h : k.wrap ((BitVec.ofInt k.bits a ^^^ BitVec.ofInt k.bits b).toNat : Int) = c) :
    (execOp (ev f) ⟨d, .binOp .xor T x y U, ty, pos, after, g⟩).run P w = .ok (.value (.int k c)) w := by
  subst h; simp [execOp, hx, hy, eqGuard, binOp, Op.intBits]
theorem r_neg {x : Operand} {T : TypeId} {k : IntKind} {a c : Int} (hx : ev f x = .int k a) (h : k.wrap (0 - a) = c) :
    (execOp (ev f) ⟨d, .unOp .neg T x, ty, pos, after, g⟩).run P w = .ok (.value (.int k c)) w := by
  subst h; simp [execOp, hx, Op.unary, Op.intArith]
end

theorem wrap_u64 (n : Int) : IntKind.u64.wrap n = n % 18446744073709551616 := by
  simp [IntKind.wrap, IntKind.bits, IntKind.signed]
theorem wrap_u8 (n : Int) : IntKind.u8.wrap n = n % 256 := by
  simp [IntKind.wrap, IntKind.bits, IntKind.signed]
theorem or128 (n : Nat) : IntKind.u8.wrap ((BitVec.ofInt IntKind.u8.bits (IntKind.u8.wrap (n : Int)) ||| BitVec.ofInt IntKind.u8.bits 128).toNat : Int) = ((n % 128 + 128 : Nat) : Int) := by
  have h : ∀ c : Nat, c < 256 → (BitVec.ofInt 8 (c : Int) ||| BitVec.ofInt 8 128).toNat = c % 128 + 128 := by decide +kernel
  rw [wrap_u8, wrap_u8]
  have e : ((n : Int) % 256) = ((n % 256 : Nat) : Int) := by omega
  rw [e]
  have h1 := h (n % 256) (by omega)
  show ((BitVec.ofInt 8 ((n % 256 : Nat) : Int) ||| BitVec.ofInt 8 128).toNat : Int) % 256 = _
  rw [h1]
  omega
theorem and127 {c : Int} (h0 : 0 ≤ c ∧ c < 256) : IntKind.u8.wrap ((BitVec.ofInt IntKind.u8.bits c &&& BitVec.ofInt IntKind.u8.bits 127).toNat : Int) = c % 128 := by
  have h : ∀ c : Nat, c < 256 → (BitVec.ofInt 8 (c : Int) &&& BitVec.ofInt 8 127).toNat = c % 128 := by decide +kernel
  rw [wrap_u8]
  obtain ⟨n, rfl⟩ : ∃ n : Nat, c = n := ⟨c.toNat, by omega⟩
  have h1 := h n (by omega)
  show ((BitVec.ofInt 8 (n : Int) &&& BitVec.ofInt 8 127).toNat : Int) % 256 = _
  rw [h1]
  omega
theorem toNat64 (n : Nat) (h : n < 2 ^ 64) : (BitVec.ofInt 64 (n : Int)).toNat = n := by
  rw [BitVec.toNat_ofInt]
  omega
theorem and1 (n : Nat) (h : n < 2 ^ 64) : IntKind.u64.wrap ((BitVec.ofInt IntKind.u64.bits (n : Int) &&& BitVec.ofInt IntKind.u64.bits 1).toNat : Int) = ((n % 2 : Nat) : Int) := by
  rw [wrap_u64]
  show ((BitVec.ofInt 64 (n : Int) &&& BitVec.ofInt 64 ((1 : Nat) : Int)).toNat : Int) % _ = _
  rw [BitVec.toNat_and, toNat64 n h, toNat64 1 (by decide), Nat.and_one_is_mod]
  omega
theorem or_add {a c i : Nat} (ha : a < 2 ^ i) (h : a + c * 2 ^ i < 2 ^ 64) : IntKind.u64.wrap ((BitVec.ofInt IntKind.u64.bits (a : Int) ||| BitVec.ofInt IntKind.u64.bits ((c * 2 ^ i : Nat) : Int)).toNat : Int) = ((a + c * 2 ^ i : Nat) : Int) := by
  rw [wrap_u64]
  show ((BitVec.ofInt 64 (a : Int) ||| BitVec.ofInt 64 ((c * 2 ^ i : Nat) : Int)).toNat : Int) % _ = _
  rw [BitVec.toNat_or, toNat64 a (by omega), toNat64 _ (by omega)]
  have e : a ||| c * 2 ^ i = a + c * 2 ^ i := by
    have := Nat.shiftLeft_add_eq_or_of_lt ha c
    rw [Nat.shiftLeft_eq] at this
    rw [Nat.or_comm, ← this, Nat.add_comm]
  rw [e]
  omega
theorem xor_zero {a : Nat} (h : a < 2 ^ 64) : IntKind.u64.wrap ((BitVec.ofInt IntKind.u64.bits (a : Int) ^^^ BitVec.ofInt IntKind.u64.bits 0).toNat : Int) = (a : Int) := by
  rw [wrap_u64]
  show ((BitVec.ofInt 64 (a : Int) ^^^ BitVec.ofInt 64 ((0 : Nat) : Int)).toNat : Int) % _ = _
  rw [BitVec.toNat_xor, toNat64 a h, toNat64 0 (by decide), Nat.xor_zero]
  omega
theorem xor_ones {a : Nat} (h : a < 2 ^ 64) : IntKind.u64.wrap ((BitVec.ofInt IntKind.u64.bits (a : Int) ^^^ BitVec.ofInt IntKind.u64.bits 18446744073709551615).toNat : Int) = 18446744073709551615 - (a : Int) := by
  rw [wrap_u64]
  show ((BitVec.ofInt 64 (a : Int) ^^^ BitVec.ofInt 64 18446744073709551615).toNat : Int) % _ = _
  have e : BitVec.ofInt 64 18446744073709551615 = BitVec.allOnes 64 := by decide +kernel
  rw [e, BitVec.xor_allOnes, BitVec.toNat_not, toNat64 a h]
  omega
end Go.Eng
