/-
  Layer 17: the reader: a number that is not too great; an int64. No condition.
-/
import Derived.Test.YtfojeengapebmaaRead
namespace Go.Proofs.Ytfojeengapebmaa
open Go.Eng

theorem wrap_i64 (n : Int) : IntKind.i64.wrap n = if 9223372036854775808 ≤ n % 18446744073709551616 then n % 18446744073709551616 - 18446744073709551616 else n % 18446744073709551616 := by
  simp [IntKind.wrap, IntKind.bits, IntKind.signed]
theorem xor_i0 {a : Nat} (h : a < 9223372036854775808) : IntKind.i64.wrap ((BitVec.ofInt IntKind.i64.bits (a : Int) ^^^ BitVec.ofInt IntKind.i64.bits 0).toNat : Int) = (a : Int) := by
  have e : (BitVec.ofInt IntKind.i64.bits (a : Int) ^^^ BitVec.ofInt IntKind.i64.bits 0).toNat = a := by
    show (BitVec.ofInt 64 (a : Int) ^^^ BitVec.ofInt 64 ((0 : Nat) : Int)).toNat = _
    rw [BitVec.toNat_xor, toNat64 a (by omega), toNat64 0 (by decide), Nat.xor_zero]
  rw [e, wrap_i64]
  split <;> omega
theorem xor_i1 {a : Nat} (h : a < 9223372036854775808) : IntKind.i64.wrap ((BitVec.ofInt IntKind.i64.bits (a : Int) ^^^ BitVec.ofInt IntKind.i64.bits (-1)).toNat : Int) = -(a : Int) - 1 := by
  have e : (BitVec.ofInt IntKind.i64.bits (a : Int) ^^^ BitVec.ofInt IntKind.i64.bits (-1)).toNat = 18446744073709551615 - a := by
    show (BitVec.ofInt 64 (a : Int) ^^^ BitVec.ofInt 64 (-1)).toNat = _
    have e1 : BitVec.ofInt 64 (-1) = BitVec.allOnes 64 := by decide +kernel
    rw [e1, BitVec.xor_allOnes, BitVec.toNat_not, toNat64 a (by omega)]
  rw [e, wrap_i64]
  split <;> omega

set_option maxRecDepth 20000 in
theorem f32_calls (rb : Nat) (v0 : Value) (l : List Int) (hl : isB l) : CtrT Try.prog thr 32 #[.pointer (some ⟨rb, 0, none⟩)] [(rb, cb [v0] 85)] (RB (· ∉ [rb]) v0 l)
    (fun r c' => ∃ n rest v', dNum l = some (n, rest) ∧ r = .int .i64 n ∧ c' = [(rb, cb [v'] 85)] ∧ ∀ B w, RB B v0 l w → RB B v' rest w) (dNum l = none) := by
  intro w0 hp hro
  have hs := hp.st
  refine calls_W (n := 11) Try.func32 rfl Try.ntmps32 (by simp) ?_
  refine W_seq ?_
  -- region 0
  refine W_region (by decide +kernel) ?_
  refine sq_r r_assign rfl ?_
  refine sq_z ?_
  refine W_seq ?_
  -- region 1
  refine W_region (by decide +kernel) ?_
  refine sq_r r_move rfl ?_
  refine sq_e rfl (o_callT (i := 0) cb37 rfl rfl (f37_calls rb v0 l hl) hs rfl hro (fun k w hk hb hs => .inr ⟨k, hk, rfl, by unfold dNum; rw [hb]; rfl, hs⟩) ?_)
  rintro v c' w ⟨n, rest, v', hd, rfl, rfl, hv⟩ hs
  have he : dNum l = if n ≤ 1099511627776 then some ((n : Int), rest) else none := by unfold dNum; rw [hd]; rfl
  refine sq_r r_assign rfl ?_
  refine sq_z ?_
  refine W_seq ?_
  -- region 2
  refine W_region (by decide +kernel) ?_
  refine sq_r r_move rfl ?_
  refine sq_r (r_cmp (r := decide ((n : Int) ≤ 1099511627776)) rfl rfl rfl) rfl ?_
  refine sq_e rfl (o_callT0 cb30 rfl rfl (f30_calls (decide ((n : Int) ≤ 1099511627776)) 170 (by decide)) hs trivial (fun k w hk hb hs => .inr ⟨k, hk, rfl, by rw [he, if_neg (fun h => of_decide_eq_false hb (by omega))], hs⟩) ?_)
  rintro v w ⟨rfl, hok⟩ hs
  have hok := of_decide_eq_true hok
  rw [if_pos (by omega)] at he
  refine sq_z ?_
  refine W_seq ?_
  -- region 3
  refine W_region (by decide +kernel) ?_
  refine sq_r r_move rfl ?_
  refine sq_r (r_conv (m := (n : Int)) Try.underlying94 Try.underlying3 rfl (wrap_small (by omega) (by omega))) rfl ?_
  refine sq_r r_assign rfl ?_
  refine sq_z ?_
  refine W_ret ?_
  exact ret1 (v := .int .i64 (n : Int)) rfl (by decide) rfl (finT (c' := [(rb, cb [v'] 85)]) hs ⟨n, rest, v', he, rfl, rfl, hv⟩ (by simp))

set_option maxRecDepth 20000 in
theorem f38_calls (rb : Nat) (v0 : Value) (l : List Int) (hl : isB l) : CtrT Try.prog thr 38 #[.pointer (some ⟨rb, 0, none⟩)] [(rb, cb [v0] 85)] (RB (· ∉ [rb]) v0 l)
    (fun r c' => ∃ n rest v', dSig l = some (n, rest) ∧ r = .int .i64 n ∧ c' = [(rb, cb [v'] 85)] ∧ ∀ B w, RB B v0 l w → RB B v' rest w) (dSig l = none) := by
  intro w0 hp hro
  have hs := hp.st
  refine calls_W (n := 14) Try.func38 rfl Try.ntmps38 (by simp) ?_
  refine W_seq ?_
  -- region 0
  refine W_region (by decide +kernel) ?_
  refine sq_r r_assign rfl ?_
  refine sq_z ?_
  refine W_seq ?_
  -- region 1
  refine W_region (by decide +kernel) ?_
  refine sq_r r_move rfl ?_
  refine sq_e rfl (o_callT (i := 0) cb37 rfl rfl (f37_calls rb v0 l hl) hs rfl hro (fun k w hk hb hs => .inr ⟨k, hk, rfl, by unfold dSig; rw [hb]; rfl, hs⟩) ?_)
  rintro v c' w ⟨n, rest, v', hd, rfl, rfl, hv⟩ hs
  have he : dSig l = some (zag n, rest) := by unfold dSig; rw [hd]; rfl
  have hn : n < 2 ^ 64 := by have := (enc_dB l 0 n rest hl hd).2.2.2; simpa using this
  refine sq_r r_assign rfl ?_
  refine sq_z ?_
  refine W_seq ?_
  -- region 2
  refine W_region (by decide +kernel) ?_
  refine sq_r r_move rfl ?_
  refine sq_r (r_shr (b := 1) (c := ((n / 2 : Nat) : Int)) rfl rfl (by
    show ((n : Int)).fdiv 2 = _
    rw [Int.fdiv_eq_ediv_of_nonneg _ (by decide)]; omega)) rfl ?_
  refine sq_r (r_conv (m := ((n / 2 : Nat) : Int)) Try.underlying94 Try.underlying2 rfl (wrap_small (by omega) (by omega))) rfl ?_
  refine sq_r r_move rfl ?_
  refine sq_r (r_and (c := ((n % 2 : Nat) : Int)) rfl rfl (and1 n hn)) rfl ?_
  refine sq_r (r_conv (m := ((n % 2 : Nat) : Int)) Try.underlying94 Try.underlying2 rfl (wrap_small (by omega) (by omega))) rfl ?_
  refine sq_r (r_neg (c := if n % 2 = 0 then 0 else -1) rfl (by rw [wrap_small (by omega) (by omega)]; split <;> omega)) rfl ?_
  refine sq_r (r_xor (c := zag n) rfl rfl (by
    unfold zag
    by_cases h : n % 2 = 0
    · rw [if_pos h, if_pos h]
      exact xor_i0 (by omega)
    · rw [if_neg h, if_neg h]
      exact xor_i1 (by omega))) rfl ?_
  refine sq_r r_assign rfl ?_
  refine sq_z ?_
  refine W_ret ?_
  exact ret1 (v := .int .i64 (zag n)) rfl (by decide) rfl (finT (c' := [(rb, cb [v'] 85)]) hs ⟨zag n, rest, v', he, rfl, rfl, hv⟩ (by simp))

end Go.Proofs.Ytfojeengapebmaa
