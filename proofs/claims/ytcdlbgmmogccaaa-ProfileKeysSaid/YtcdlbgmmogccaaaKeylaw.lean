/-
  Layer 14: the law ProfileKeys: the key of any merge with any green values, or none. No condition.
-/
import Derived.Test.YtcdlbgmmogccaaaAwake
namespace Go.Proofs.Ytcdlbgmmogccaaa
open Go.Eng

theorem zero_kc (k : Ky) : spl [Value.int .i64 0, .int .i64 0, .int .i64 0, .int .i64 0, .int .i64 0, .int .i64 0, .int .i64 0, .int .i64 0, .int .i64 0, .int .i64 0] 0 (kc k) = kc k := spl_all (kc_len k)
theorem f3_law (mg : Int) (v : Value) (xs : List (Vector Int 2)) : Ctr Try.prog 3 #[.int .i64 mg, v] [] (fun w => Arg 2 w v xs) (fun v c => v = .bool true ∧ c = []) := by
  intro w0 hp harg
  have hs : St w0 (ks []) [] w0 := St.start w0
  obtain ⟨⟨a, cap, hv, hall⟩, hmx, hrng⟩ := id harg
  subst hv
  refine calls_W (n := 34) Try.func3 rfl Try.ntmps3 (by simp) ?_
  refine W_seq ?_
  -- region 0
  refine W_region (by decide +kernel) ?_
  refine sq_r r_assign rfl ?_
  refine sq_z ?_
  refine W_seq ?_
  refine W_seq ?_
  -- region 1
  refine W_region (by decide +kernel) ?_
  refine sq_e rfl (o_callN cb9 rfl rfl (Post := fun v _ => v = .bool true) f9_calls hs trivial ?_)
  rintro v w rfl hs
  refine sq_r (r_not rfl) rfl ?_
  refine sq_z ?_
  -- IF ('tmp', 10)
  refine W_cond rfl rfl (fun hc => ?_) (fun hc => ?_)
  · cases hc
  refine W_skip ?_
  refine W_seq ?_
  refine W_seq ?_
  -- region 3
  refine W_region (by decide +kernel) ?_
  refine sq_r r_move rfl ?_
  refine sq_r (r_lenS Try.underlying22 rfl) rfl ?_
  refine sq_r (r_cmp rfl rfl rfl) rfl ?_
  refine sq_z ?_
  -- IF ('tmp', 13)
  refine W_cond rfl rfl (fun hc => ?_) (fun hc => ?_)
  · refine W_seq ?_
    -- region 4
    refine W_region (by decide +kernel) ?_
    refine sq_r r_assign rfl ?_
    refine sq_z ?_
    refine W_ret ?_
    repeat with_reducible first | refine thenQ_ret ?_ | refine blockQ_ret ?_
    exact ret1 (v := .bool true) rfl (by decide) rfl (fin (c' := []) hs ⟨rfl, rfl⟩ (by simp))
  refine W_skip ?_
  refine W_seq ?_
  -- region 5
  refine W_region (by decide +kernel) ?_
  refine sq_r r_move rfl ?_
  refine sq_r r_move rfl ?_
  refine sq_e rfl (o_call0 cb10 rfl rfl (f10_calls mg _ xs) hs (harg.old hs) ?_)
  rintro v c w ⟨k1, hk1, rfl, rfl⟩ hs
  refine sq_r r_move rfl ?_
  refine sq_r (r_extract rfl rfl) rfl ?_
  refine sq_r (r_extract rfl rfl) rfl ?_
  refine sq_e rfl (o_alloc hs ty28 ?_); intro b1 w hs
  refine sq_e rfl (o_store (i := 1) (vs := kc k1) hs rfl rfl (by rw [kc_len]; exact ty28) rfl (kc_one _) (by simp [kc_len]) ?_); intro w hs
  refine sq_r r_assign rfl ?_
  refine sq_z ?_
  have hs : St w0 (ks []) [[(b1, cb (kc k1) 28)]] w := hs.cast (by simp only [zero_kc]; rfl)
  refine W_seq ?_
  -- region 6
  refine W_region (by decide +kernel) ?_
  refine sq_r r_move rfl ?_
  refine sq_r r_move rfl ?_
  refine sq_e rfl (o_call0 cb11 rfl rfl (f11_calls mg _ xs) hs (harg.old hs) ?_)
  rintro v c w ⟨k2, hk2, rfl, rfl⟩ hs
  refine sq_r r_move rfl ?_
  refine sq_r (r_extract rfl rfl) rfl ?_
  refine sq_r (r_extract rfl rfl) rfl ?_
  refine sq_e rfl (o_alloc hs ty28 ?_); intro b2 w hs
  refine sq_e rfl (o_store (i := 2) (vs := kc k2) hs rfl rfl (by rw [kc_len]; exact ty28) rfl (kc_one _) (by simp [kc_len]) ?_); intro w hs
  refine sq_r r_assign rfl ?_
  refine sq_z ?_
  have hs : St w0 (ks []) [[(b1, cb (kc k1) 28)], [(b2, cb (kc k2) 28)]] w := hs.cast (by simp only [zero_kc]; rfl)
  have hkk : k1 = k2 := by
    have h : k1.toList = k2.toList := hk1.trans hk2.symm
    exact Vector.toList_inj.1 h
  refine W_seq ?_
  -- region 7
  refine W_region (by decide +kernel) ?_
  refine sq_r (r_loadN rfl ty28 (kc_len k1) (At.of_block (hs.own (i := 0) rfl) (kc_all _))) rfl ?_
  refine sq_r (r_loadN rfl ty28 (kc_len k2) (At.of_block (hs.own (i := 1) rfl) (kc_all _))) rfl ?_
  refine sq_r (r_eqS (a := k1) (b := k2) Try.underlying28 flat28 (by decide) (by kernel_rfl) rfl rfl) rfl ?_
  refine sq_r r_move rfl ?_
  rw [decide_eq_true hkk]
  refine sq_r r_move rfl ?_ /- GUARD 3 True -/
  refine sq_r r_move rfl ?_ /- GUARD 3 True -/
  refine sq_r (r_eqB Try.underlying4 rfl rfl) rfl ?_ /- GUARD 3 True -/
  refine sq_r (r_pick rfl) rfl ?_
  refine sq_r r_assign rfl ?_
  refine sq_z ?_
  refine W_ret ?_
  refine ret1 (v := .bool ((keyL mg xs).2 == (keyL mg xs).2)) rfl (by decide) rfl (fin (c' := []) hs ⟨by simp, rfl⟩ (by simp))

end Go.Proofs.Ytcdlbgmmogccaaa
