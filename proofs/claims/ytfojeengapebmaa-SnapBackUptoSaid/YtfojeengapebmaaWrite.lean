/-
  Layer 17: the writer: a number, one from a least number on, an int64. Conditions: not much is written yet.
-/
import Derived.Test.YtfojeengapebmaaGuarded
import Derived.Test.YtfojeengapebmaaCodec
import Derived.Test.YtfojeengapebmaaBits
namespace Go.Proofs.Ytfojeengapebmaa
open Go.Eng

def by8 (l : List Int) : List Value := l.map (Value.int .u8)
/-- A writer that has written 'out'. -/
def WK (wb : Nat) (out : List Int) (c : Ck) : Prop := ∃ v bc, c = [(wb, cb [v] 79)] ++ bc ∧ Sl 5 1 v out.length (by8 out) bc
theorem wk_more {v : Value} {bc : Ck} {out : List Int} {b : Int} (h : Sl 5 1 v (out.length + 1) (by8 out ++ [.int .u8 b]) bc) : Sl 5 1 v (out ++ [b]).length (by8 (out ++ [b])) bc := by
  simpa [by8] using h

set_option maxRecDepth 20000 in
set_option maxHeartbeats 1000000 in
theorem f35_calls (wb : Nat) (out : List Int) (c : Ck) (hc : WK wb out c) (n : Nat) (hn : n < 2 ^ 64) (ho : out.length ≤ 2000000) : Ctr Try.prog 35 #[.pointer (some ⟨wb, 0, none⟩), .int .u64 n] c (fun _ => True) (fun v c' => v = .tuple #[] ∧ WK wb (out ++ encB n) c') := by
  intro w0 hp _
  obtain ⟨v0, bc0, hce, hsl0⟩ := hc
  have hmax : 4000000 ≤ maxLen := by decide +kernel
  have hlen := encB_len 10 n (Nat.lt_of_lt_of_le hn (by decide)) (by decide)
  have hs : St w0 (ks c) [[(wb, cb [v0] 79)], bc0] w0 := hp.st.cast (by rw [hce]; simp)
  refine calls_W (n := 31) Try.func35 rfl Try.ntmps35 (by simp) ?_
  refine W_seq ?_
  refine W_block ?_ -- 0
  -- LOOP
  refine W_loop (fun (m : Nat) f w => ∃ g v bc done, f = ov [(0, .pointer (some ⟨wb, 0, none⟩)), (1, .int .u64 m)] g ∧ encB n = done ++ encB m ∧ m < 2 ^ 64 ∧ Sl 5 1 v (out ++ done).length (by8 (out ++ done)) bc ∧ St w0 (ks c) [[(wb, cb [v] 79)], bc] w) (fun m => m) n ?_ ?_
  · exact ⟨_, v0, bc0, [], ov_self ⟨rfl, rfl, trivial⟩, rfl, hn, by simpa using hsl0, hs⟩
  clear hs hsl0
  rintro m f w ⟨g, v, bc, done, rfl, hdone, hm, hsl, hs⟩
  have hdl : done.length + (encB m).length ≤ 10 := by rw [hdone, List.length_append] at hlen; exact hlen
  have hol : (out ++ done).length ≤ 2000010 := by rw [List.length_append]; omega
  refine W_seq ?_
  refine W_seq ?_
  -- region 0
  refine W_region (by decide +kernel) ?_
  refine sq_r r_move rfl ?_
  refine sq_r (r_cmp rfl rfl rfl) rfl ?_
  refine sq_z ?_
  refine W_cond rfl rfl (fun hd => ?_) (fun hd => ?_)
  · have hbig : ¬ m < 128 := by have := of_decide_eq_true hd; omega
    refine W_skip ?_
    refine W_seq ?_
    refine W_block ?_ -- 1
    -- region 2
    refine W_region (by decide +kernel) ?_
    refine sq_r r_move rfl ?_
    refine sq_r r_move rfl ?_
    refine sq_r (r_nilCheck rfl) rfl ?_
    refine sq_r (r_field rfl fa79_0) rfl ?_
    refine sq_r (r_load1 rfl ty42 (At.one (v := v) (hs.own (i := 0) rfl) rfl)) rfl ?_
    refine sq_r r_move rfl ?_
    refine sq_r (r_conv (m := IntKind.u8.wrap (m : Int)) Try.underlying94 Try.underlying5 rfl rfl) rfl ?_
    refine sq_r (r_or (c := ((m % 128 + 128 : Nat) : Int)) rfl rfl (or128 m)) rfl ?_
    refine sq_e rfl (o_buildN [.int .u8 ((m % 128 + 128 : Nat) : Int)] [[.int .u8 ((m % 128 + 128 : Nat) : Int)]] sl42 ty5 hs rfl rfl rfl (by simp) (by simp) ?_); intro b0 w hs
    refine sq_e rfl (o_append (i := 1) (m := 1) (news := [.int .u8 ((m % 128 + 128 : Nat) : Int)]) (soff := 0) (sb := b0) (scap := 1) sl42 ty5 rfl hs rfl rfl rfl hsl (by simp) (At.of_block (hs.own (i := 2) rfl) (by simp)) (by simp [Value.oneCell']) (by omega) (by omega) ?_)
    intro v1 bc1 w hsl1 hs
    refine sq_r (r_nilCheck rfl) rfl ?_
    refine sq_r (r_field rfl fa79_0) rfl ?_
    refine sq_e rfl (o_store (i := 0) (vs := [v1]) hs rfl (sl_one hsl1).2 ty42 rfl (by simpa using (sl_one hsl1).1) (by simp) ?_); intro w hs
    refine sq_z ?_
    -- region 1
    refine W_region (by decide +kernel) ?_
    refine sq_r r_move rfl ?_
    refine sq_r (r_shr (b := 7) (c := ((m / 128 : Nat) : Int)) rfl rfl (by
      show ((m : Int)).fdiv 128 = _
      rw [Int.fdiv_eq_ediv_of_nonneg _ (by decide)]; omega)) rfl ?_
    refine sq_r r_assign rfl ?_
    refine sq_z ?_
    have hs : St w0 (ks c) [[(wb, cb [v1] 79)], bc1] w := hs.keep (by simp [spl])
    have h1 := wk_more hsl1
    rw [List.append_assoc] at h1
    exact ⟨m / 128, ⟨_, v1, bc1, done ++ [((m % 128 + 128 : Nat) : Int)], ov_self ⟨rfl, rfl, trivial⟩, by rw [hdone, encB_big hbig]; simp, by omega, h1, hs⟩, by omega⟩
  · have hsmall : m < 128 := by have := of_decide_eq_false hd; omega
    refine W_exit ?_ -- 0
    -- region 3
    refine W_region (by decide +kernel) ?_
    refine sq_r r_move rfl ?_
    refine sq_r r_move rfl ?_
    refine sq_r (r_nilCheck rfl) rfl ?_
    refine sq_r (r_field rfl fa79_0) rfl ?_
    refine sq_r (r_load1 rfl ty42 (At.one (v := v) (hs.own (i := 0) rfl) rfl)) rfl ?_
    refine sq_r r_move rfl ?_
    refine sq_r (r_conv (m := (m : Int)) Try.underlying94 Try.underlying5 rfl (by rw [wrap_u8]; omega)) rfl ?_
    refine sq_e rfl (o_buildN [.int .u8 (m : Int)] [[.int .u8 (m : Int)]] sl42 ty5 hs rfl rfl rfl (by simp) (by simp) ?_); intro b0 w hs
    refine sq_e rfl (o_append (i := 1) (m := 1) (news := [.int .u8 (m : Int)]) (soff := 0) (sb := b0) (scap := 1) sl42 ty5 rfl hs rfl rfl rfl hsl (by simp) (At.of_block (hs.own (i := 2) rfl) (by simp)) (by simp [Value.oneCell']) (by omega) (by omega) ?_)
    intro v1 bc1 w hsl1 hs
    refine sq_r (r_nilCheck rfl) rfl ?_
    refine sq_r (r_field rfl fa79_0) rfl ?_
    refine sq_e rfl (o_store (i := 0) (vs := [v1]) hs rfl (sl_one hsl1).2 ty42 rfl (by simpa using (sl_one hsl1).1) (by simp) ?_); intro w hs
    refine sq_z ?_
    have h1 := wk_more hsl1
    refine ret0 rfl (fin (c' := [(wb, cb [v1] 79)] ++ bc1) hs ⟨rfl, v1, bc1, rfl, ?_⟩ (by simp [spl]))
    rw [hdone, encB_small hsmall, ← List.append_assoc]
    exact h1

set_option maxRecDepth 20000 in
theorem f36_calls (wb : Nat) (out : List Int) (c : Ck) (hc : WK wb out c) (n : Int) (hn : In64 n) (ho : out.length ≤ 2000000) : Ctr Try.prog 36 #[.pointer (some ⟨wb, 0, none⟩), .int .i64 n] c (fun _ => True) (fun v c' => v = .tuple #[] ∧ WK wb (out ++ encB (zig n)) c') := by
  intro w0 hp _
  have hs := hp.st
  refine calls_W (n := 13) Try.func36 rfl Try.ntmps36 (by simp) ?_
  obtain ⟨hn1, hn2⟩ : -9223372036854775808 ≤ n ∧ n ≤ 9223372036854775807 := hn
  have hz := zig_lt (n := n) ⟨hn1, hn2⟩
  -- region 0
  refine W_region (by decide +kernel) ?_
  refine sq_r r_move rfl ?_
  refine sq_r r_move rfl ?_
  refine sq_r (r_conv (m := n % 18446744073709551616) Try.underlying2 Try.underlying94 rfl (wrap_u64 n)) rfl ?_
  refine sq_r (r_shl (b := 1) (c := (2 * n) % 18446744073709551616) rfl rfl (by
    rw [wrap_u64]
    show (n % 18446744073709551616 * 2) % 18446744073709551616 = _
    omega)) rfl ?_
  refine sq_r r_move rfl ?_
  refine sq_r (r_shr (b := 63) (c := if 0 ≤ n then 0 else -1) rfl rfl (by
    show n.fdiv 9223372036854775808 = _
    rw [Int.fdiv_eq_ediv_of_nonneg _ (by decide)]
    split <;> omega)) rfl ?_
  refine sq_r (r_conv (m := if 0 ≤ n then 0 else 18446744073709551615) Try.underlying2 Try.underlying94 rfl (by rw [wrap_u64]; split <;> rfl)) rfl ?_
  refine sq_r (r_xor (c := (zig n : Int)) rfl rfl (by
    by_cases h : 0 ≤ n
    · rw [if_pos h]
      have e : (2 * n) % 18446744073709551616 = ((2 * n).toNat : Int) := by omega
      rw [e, xor_zero (by omega), zig, if_pos h]
    · rw [if_neg h]
      have e : (2 * n) % 18446744073709551616 = ((18446744073709551616 + 2 * n).toNat : Int) := by omega
      rw [e, xor_ones (by omega), zig, if_neg h]
      omega)) rfl ?_
  refine sq_e rfl (o_call (i := 0) cb35 rfl rfl (f35_calls wb out c hc (zig n) hz ho) hs rfl trivial ?_)
  rintro v c' w ⟨rfl, h1⟩ hs
  refine sq_z ?_
  exact ret0 rfl (fin (c' := c') hs ⟨rfl, h1⟩ (by simp))

set_option maxRecDepth 20000 in
theorem f28_calls (wb : Nat) (out : List Int) (c : Ck) (hc : WK wb out c) (n least : Int) (hn : In64 n) (hl : least = 0 ∨ least = -1) (ho : out.length ≤ 2000000) :
    CtrT Try.prog thr 28 #[.pointer (some ⟨wb, 0, none⟩), .int .i64 n, .int .i64 least] c (fun _ => True) (fun v c' => v = .tuple #[] ∧ ∃ o, eNum n least = some o ∧ WK wb (out ++ o) c') (eNum n least = none) := by
  intro w0 hp _
  have hs := hp.st
  obtain ⟨hn1, hn2⟩ : -9223372036854775808 ≤ n ∧ n ≤ 9223372036854775807 := hn
  refine calls_W (n := 22) Try.func28 rfl Try.ntmps28 (by simp) ?_
  refine W_mid (M := fun f w => ∃ g, f = ov [(0, .pointer (some ⟨wb, 0, none⟩)), (1, .int .i64 n), (2, .int .i64 least)] g ∧ (least ≤ n ∧ n ≤ 1099511627776 + least) ∧ St w0 (ks c) [c] w) ?_ (fun f w hM => ?_)
  · -- region 0
    refine W_region (by decide +kernel) ?_
    refine sq_r r_move rfl ?_
    refine sq_r r_move rfl ?_
    by_cases h1 : least ≤ n
    · refine sq_r (r_cmp (r := true) rfl rfl (by simp [cmpB, h1])) rfl ?_
      refine sq_r r_move rfl ?_
      refine sq_r r_move rfl ?_
      refine sq_r r_move rfl ?_
      refine sq_r (r_add (c := 1099511627776 + least) rfl rfl (wrap_small (by omega) (by omega))) rfl ?_
      refine sq_r (r_cmp (r := decide (n ≤ 1099511627776 + least)) rfl rfl rfl) rfl ?_
      refine sq_r (r_pick (b := true) rfl) rfl ?_
      refine sq_e rfl (o_callT0 cb30 rfl rfl (f30_calls (decide (n ≤ 1099511627776 + least)) 170 (by decide)) hs trivial (fun k w hk hb hs => .inr ⟨k, hk, rfl, if_neg fun h => of_decide_eq_false hb h.2, hs⟩) ?_)
      rintro v w ⟨rfl, hd⟩ hs
      refine sq_z ?_
      exact ⟨_, ov_self ⟨rfl, rfl, rfl, trivial⟩, ⟨h1, of_decide_eq_true hd⟩, hs⟩
    · refine sq_r (r_cmp (r := false) rfl rfl (by simp [cmpB]; omega)) rfl ?_
      refine sq_r r_move rfl ?_
      refine sq_n rfl ?_
      refine sq_n rfl ?_
      refine sq_n rfl ?_
      refine sq_n rfl ?_
      refine sq_r (r_pick (b := false) rfl) rfl ?_
      refine sq_e rfl (o_callT0 cb30 rfl rfl (f30_calls false 170 (by decide)) hs trivial (fun k w hk hb hs => .inr ⟨k, hk, rfl, if_neg fun h => h1 h.1, hs⟩) ?_)
      rintro v w ⟨_, hd⟩ hs
      cases hd
  obtain ⟨g, rfl, hok, hs⟩ := hM
  have he : eNum n least = some (encB (n - least).toNat) := if_pos hok
  -- region 1
  refine W_region (by decide +kernel) ?_
  refine sq_r r_move rfl ?_
  refine sq_r r_move rfl ?_
  refine sq_r r_move rfl ?_
  refine sq_r (r_sub (c := n - least) rfl rfl (wrap_small (by omega) (by omega))) rfl ?_
  refine sq_r (r_conv (m := ((n - least).toNat : Int)) Try.underlying3 Try.underlying94 rfl (by rw [wrap_u64]; omega)) rfl ?_
  refine sq_e rfl (o_call (i := 0) cb35 rfl rfl (f35_calls wb out c hc (n - least).toNat (by omega) ho) hs rfl trivial ?_)
  rintro v c' w ⟨rfl, h1⟩ hs
  refine sq_z ?_
  exact ret0 rfl (finT (c' := c') hs ⟨rfl, _, he, h1⟩ (by simp))

end Go.Proofs.Ytfojeengapebmaa
