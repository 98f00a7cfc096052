/-
  Layer 14: the document's book (the reference): Ban. Conditions: it holds few rows.
-/
import Derived.Test.YtcdlbgmmogccaaaDrop
namespace Go.Proofs.Ytcdlbgmmogccaaa
open Go.Eng

theorem ky10 (k : Ky) : ∃ a b c d e f g h i j, k.toList = [a, b, c, d, e, f, g, h, i, j] := by
  have h : k.toList.length = 10 := by simp
  match hk : k.toList, h with
  | [a, b, c, d, e, f, g, h, i, j], _ => exact ⟨a, b, c, d, e, f, g, h, i, j, rfl⟩
theorem build_row' (w : World) (a b c d e f g h i j : Int) : (Instr.build 63 #[(0, .agg (ic [a, b, c, d, e, f, g, h, i, j]).toArray)]).run Try.prog w = .ok (.agg (ic [a, b, c, d, e, f, g, h, i, j] ++ [Value.int .i64 0]).toArray) w := by kernel_rfl
theorem build_row (k : Ky) (w : World) : (Instr.build 63 #[(0, .agg (kc k).toArray)]).run Try.prog w = .ok (.agg (rowF (k, 0)).toArray) w := by
  obtain ⟨a, b, c, d, e, f, g, h, i, j, hk⟩ := ky10 k
  have e1 : kc k = ic [a, b, c, d, e, f, g, h, i, j] := by rw [kc, hk]
  unfold rowF
  rw [e1]
  exact build_row' w a b c d e f g h i j
theorem sl_cell {v : Value} {n : Nat} {E s : Nat} {xs : List Value} {c : Ck} (h : Sl E s v n xs c) : v.oneCell' = true ∧ v.cells = #[v] := by
  obtain ⟨a, cap, rfl⟩ := h.len
  exact ⟨rfl, rfl⟩
theorem max4000 : 4000 ≤ maxLen := by decide +kernel

/-- Ban: the key's row goes, the key is kept among those that are banned. -/
def rGo (rows : List (Ky × Int)) (z : Int) : List (Ky × Int) := if 0 ≤ z then rows.eraseIdx z.toNat else rows
def rBan (s : RS) (k : Ky) (z : Int) : RS := { s with rows := rGo s.rows z, out := if k ∈ s.out then s.out else s.out ++ [k] }
set_option maxHeartbeats 1000000 in
theorem f20_calls (rb : Nat) (s : RS) (k : Ky) (c : Ck) (hc : RB rb s c) (hn : s.rows.length ≤ 4000) (hm : s.out.length ≤ 3999) : Ctr Try.prog 20 #[.pointer (some ⟨rb, 0, none⟩), .agg (kc k).toArray] c (fun _ => True)
    (fun _ c' => ∃ z, Fnd s.rows k z ∧ RB rb (rBan s k z) c') := by
  intro w0 hp hro
  have hs : St w0 (ks c) [c] w0 := hp.st
  refine calls_W (n := 27) Try.func20 rfl Try.ntmps20 (by simp) ?_
  refine W_seq ?_
  -- region 0
  refine W_region (by decide +kernel) ?_
  refine sq_e rfl (o_box (cs := kc k) hs rfl ?_); intro b3 w hs
  refine sq_z ?_
  refine W_mid (M := fun f w => ∃ g z c1, f = ov [(0, .pointer (some ⟨rb, 0, none⟩)), (3, .pointer (some ⟨b3, 0, none⟩))] g ∧ Fnd s.rows k z ∧ RB rb { s with rows := rGo s.rows z } c1 ∧
    St w0 (ks c) [c1, [(b3, cb (kc k) 28)]] w) ?_ (fun f w hM => ?_)
  · refine W_seq ?_
    -- region 1
    refine W_region (by decide +kernel) ?_
    refine sq_r r_move rfl ?_
    refine sq_r (r_loadN rfl ty28 (kc_len k) (At.of_block (hs.own (i := 1) rfl) (kc_all k))) rfl ?_
    refine sq_e rfl (o_call (i := 0) cb26 rfl rfl (f26_calls rb s k c hc hn) hs rfl trivial ?_)
    rintro v c' w ⟨⟨z, rfl, hz⟩, rfl⟩ hs
    refine sq_r r_assign rfl ?_
    refine sq_z ?_
    refine W_seq ?_
    -- region 2
    refine W_region (by decide +kernel) ?_
    refine sq_r r_move rfl ?_
    refine sq_r (r_cmp rfl rfl rfl) rfl ?_
    refine sq_z ?_
    refine W_cond rfl rfl (fun hd => ?_) (fun hd => ?_)
    · have h0 : 0 ≤ z := of_decide_eq_true hd
      obtain ⟨i, rfl, hi⟩ : ∃ i : Nat, z = i ∧ i < s.rows.length := by
        rcases hz with ⟨i, r, rfl, hi, _⟩ | ⟨rfl, _⟩
        · exact ⟨i, rfl, (List.getElem?_eq_some_iff.1 hi).1⟩
        · exact absurd h0 (by decide)
      -- region 3
      refine W_region (by decide +kernel) ?_
      refine sq_r r_move rfl ?_
      refine sq_r r_move rfl ?_
      refine sq_e rfl (o_call (i := 0) cb27 rfl rfl (f27_calls rb s i c' hc hn hi) hs rfl trivial ?_)
      intro v c1 w hb hs
      refine sq_z ?_
      exact ⟨_, i, c1, ov_self ⟨rfl, rfl, trivial⟩, hz, by rw [rGo, if_pos h0, Int.toNat_natCast]; exact hb, hs⟩
    · have h0 : ¬ 0 ≤ z := of_decide_eq_false hd
      refine W_skip ?_
      exact ⟨_, z, c', ov_self ⟨rfl, rfl, trivial⟩, hz, by rw [rGo, if_neg h0]; exact hc, hs⟩
  · obtain ⟨g, z, c1, rfl, hz, hb, hs⟩ := hM
    refine W_seq ?_
    -- region 4
    refine W_region (by decide +kernel) ?_
    refine sq_r r_move rfl ?_
    refine sq_r (r_loadN rfl ty28 (kc_len k) (At.of_block (hs.own (i := 1) rfl) (kc_all k))) rfl ?_
    refine sq_e rfl (o_call (i := 0) cb22 rfl rfl (f22_calls rb _ k c1 hb (by simp only; omega)) hs rfl trivial ?_)
    rintro v c' w ⟨rfl, rfl⟩ hs
    refine sq_r (r_not rfl) rfl ?_
    refine sq_z ?_
    refine W_cond rfl rfl (fun hd => ?_) (fun hd => ?_)
    · have hk : ¬ k ∈ s.out := by simpa using hd
      obtain ⟨rv, ov', rc, oc, hr, ho, rfl⟩ := hb
      have hs : St w0 (ks c) [[(rb, cb [rv, ov', .int .i64 s.thr] 43)], rc, oc, [(b3, cb (kc k) 28)]] w := hs.cast (by simp [rbC])
      -- region 5 DRAWS
      refine W_drawT hs Try.mixed [true, false, false, true] [false, false, false, true] 3 [0, 0, 2, 6, 14, 0, 32, 126, 255, 511, 1023] [6, 7, 10] [0, 1, 2, 3, 4, 5, 6, 7, 8, 9, 10] (by decide +kernel) ?_
      intro w hs; have hR := hs.mask [true, false, false, true]
      refine dq_rp hR rfl rfl rfl (fun w => r_move) ?_
      refine dq_rp hR rfl rfl rfl (fun w => r_move) ?_
      refine dq_rp hR rfl rfl rfl (fun w => r_nilCheck rfl) ?_
      refine dq_rp hR rfl rfl rfl (fun w => r_field rfl fa43_1) ?_
      refine dq_r1 hR rfl rfl (by decide) rfl (fun w hR => r_load1 rfl ty41 (At.one (hR.own (i := 0) rfl) rfl)) ?_
      refine dq_r1 hR rfl rfl (by decide) rfl (fun w hR => r_loadN rfl ty28 (kc_len k) (At.of_block (hR.own (i := 3) rfl) (kc_all k))) ?_
      refine dq_e hR rfl rfl rfl (o_buildN [.agg (kc k).toArray] [kc k] sl41 ty28 hs rfl rfl rfl (by simp [kc_len]) (by simp) ?_); intro b4 w hs
      have hR := hs.mask [true, false, false, true]
      refine dq_e hR rfl rfl rfl (o_append (i := 2) (m := 1) (news := kc k) (soff := 0) (sb := b4) (scap := 1) sl41 ty28 rfl hs rfl rfl rfl ho (by rw [kc_len]) (At.of_block (hs.own (i := 4) rfl) (by simp)) (kc_one k) (by have := max4000; simp only; omega) (by simp only; omega) ?_)
      intro v c2 w hv hs
      have hR := hs.mask [true, false, false, true]
      refine dq_rp hR rfl rfl rfl (fun w => r_nilCheck rfl) ?_
      refine dq_rp hR rfl rfl rfl (fun w => r_field rfl fa43_1) ?_
      refine dq_e hR rfl rfl rfl (o_store (i := 0) (vs := [v]) hs rfl (sl_cell hv).2 ty41 rfl (by simpa using (sl_cell hv).1) (by simp) ?_); intro w hs
      have hR := hs.mask [false, false, false, true]
      refine dq_z hR ?_
      refine ret0 rfl (fin (c' := rbC rb rv v s.thr ++ (rc ++ c2)) hs ⟨z, hz, rv, v, rc, c2, hr, ?_, rfl⟩ (by simp [rbC, spl]))
      have e : (rBan s k z).out = s.out ++ [k] := by simp [rBan, hk]
      rw [e, List.length_append, List.flatMap_append]
      simpa using hv
    · have hk : k ∈ s.out := by simpa using hd
      refine W_skip ?_
      refine ret0 rfl (fin (c' := c') hs ⟨z, hz, ?_⟩ (by simp))
      have e : rBan s k z = { s with rows := rGo s.rows z } := by simp [rBan, hk]
      rw [e]
      exact hb

end Go.Proofs.Ytcdlbgmmogccaaa
