/-
  Layer 14: the law ProfileNone: a book that nobody made counts nothing. No condition.
-/
import Derived.Test.YtcdlbgmmogccaaaAwake
namespace Go.Proofs.Ytcdlbgmmogccaaa
open Go.Eng

/-- No book: nil, or one whose map of counts is nil. -/
def NoBook (pv : Value) (w : World) : Prop := pv = .pointer none ∨ ∃ b, pv = .pointer (some ⟨b, 0, none⟩) ∧ w.cell? ⟨b, 0, none⟩ = some (.map none)
theorem NoBook.old {pv : Value} {w0 w : World} {ls : List Ck} (h : NoBook pv w0) (hs : St w0 (ks []) ls w) : NoBook pv w := by
  rcases h with h | ⟨b, h1, h2⟩
  · exact .inl h
  · exact .inr ⟨b, h1, by rw [hs.oldcell (cells_lt h2) (by simp [ks])]; exact h2⟩
theorem f23_none (pv : Value) : Ctr Try.prog 23 #[pv] [] (NoBook pv) (fun v c => v = .bool false ∧ c = []) := by
  intro w hp hro
  rcases hro with rfl | ⟨b, rfl, h⟩
  · exact f23_nil w hp trivial
  · exact f23_calls b none w hp h
theorem f18_none (pv : Value) : Ctr Try.prog 18 #[pv] [] (NoBook pv) (fun v c => v = .int .i64 0 ∧ c = []) := by
  intro w0 hp hro
  have hs : St w0 (ks []) [] w0 := St.start w0
  refine calls_W (n := 11) Try.func18 rfl Try.ntmps18 (by simp) ?_
  refine W_seq ?_
  refine W_region (by decide +kernel) ?_
  refine sq_r r_assign rfl ?_
  refine sq_z ?_
  refine W_seq ?_
  refine W_seq ?_
  refine W_region (by decide +kernel) ?_
  refine sq_r r_move rfl ?_
  refine sq_e rfl (o_callN cb23 rfl rfl (Post := fun v _ => v = .bool false) (f23_none pv) hs (hro.old hs) ?_)
  rintro v w rfl hs
  refine sq_r (r_not rfl) rfl ?_
  refine sq_z ?_
  refine W_cond rfl rfl (fun hc => ?_) (fun hc => ?_)
  · refine W_seq ?_
    refine W_region (by decide +kernel) ?_
    refine sq_r r_assign rfl ?_
    refine sq_z ?_
    refine W_ret ?_
    repeat with_reducible first | refine thenQ_ret ?_ | refine blockQ_ret ?_
    exact ret1 (v := .int .i64 0) rfl (by decide) rfl (fin (c' := []) hs ⟨rfl, rfl⟩ (by simp))
  · cases hc
theorem f16_none (pv : Value) (k : Ky) : Ctr Try.prog 16 #[pv, .agg (kc k).toArray] [] (NoBook pv) (fun v c => v = .int .i64 0 ∧ c = []) := by
  intro w0 hp hro
  have hs : St w0 (ks []) [] w0 := St.start w0
  refine calls_W (n := 15) Try.func16 rfl Try.ntmps16 (by simp) ?_
  refine W_seq ?_
  refine W_region (by decide +kernel) ?_
  refine sq_e rfl (o_box (cs := kc k) hs rfl ?_); intro b3 w hs
  refine sq_r r_assign rfl ?_
  refine sq_z ?_
  refine W_seq ?_
  refine W_seq ?_
  refine W_region (by decide +kernel) ?_
  refine sq_r r_move rfl ?_
  refine sq_e rfl (o_callN cb23 rfl rfl (Post := fun v _ => v = .bool false) (f23_none pv) hs (hro.old hs) ?_)
  rintro v w rfl hs
  refine sq_r (r_not rfl) rfl ?_
  refine sq_z ?_
  refine W_cond rfl rfl (fun hc => ?_) (fun hc => ?_)
  · refine W_seq ?_
    refine W_region (by decide +kernel) ?_
    refine sq_r r_assign rfl ?_
    refine sq_z ?_
    refine W_ret ?_
    repeat with_reducible first | refine thenQ_ret ?_ | refine blockQ_ret ?_
    exact ret1 (v := .int .i64 0) rfl (by decide) rfl (fin (c' := []) hs ⟨rfl, rfl⟩ (by simp))
  · cases hc
theorem f19_none (pv : Value) (k : Ky) : Ctr Try.prog 19 #[pv, .agg (kc k).toArray] [] (NoBook pv) (fun _ c => True ∧ c = []) := by
  intro w0 hp hro
  have hs : St w0 (ks []) [] w0 := St.start w0
  refine calls_W (n := 16) Try.func19 rfl Try.ntmps19 (by simp) ?_
  refine W_seq ?_
  refine W_region (by decide +kernel) ?_
  refine sq_e rfl (o_box (cs := kc k) hs rfl ?_); intro b3 w hs
  refine sq_z ?_
  refine W_seq ?_
  refine W_region (by decide +kernel) ?_
  refine sq_r r_move rfl ?_
  refine sq_e rfl (o_callN cb23 rfl rfl (Post := fun v _ => v = .bool false) (f23_none pv) hs (hro.old hs) ?_)
  rintro v w rfl hs
  refine sq_z ?_
  refine W_cond rfl rfl (fun hc => ?_) (fun hc => ?_)
  · cases hc
  · refine W_skip ?_
    exact ret0 rfl (fin (c' := []) hs ⟨trivial, rfl⟩ (by simp))
theorem f21_none (pv : Value) (k : Ky) : Ctr Try.prog 21 #[pv, .agg (kc k).toArray] [] (NoBook pv) (fun v c => v = .bool false ∧ c = []) := by
  intro w0 hp hro
  have hs : St w0 (ks []) [] w0 := St.start w0
  refine calls_W (n := 16) Try.func21 rfl Try.ntmps21 (by simp) ?_
  refine W_seq ?_
  refine W_region (by decide +kernel) ?_
  refine sq_e rfl (o_box (cs := kc k) hs rfl ?_); intro b3 w hs
  refine sq_r r_assign rfl ?_
  refine sq_z ?_
  refine W_seq ?_
  refine W_drawM hs Try.mixed [true] [0, 1, 3, 7, 15, 31, 63, 7, 255, 511, 1023, 2047] [1] [0, 1, 2, 3, 4, 5, 6, 7, 8, 9, 10, 11] (by decide +kernel) ?_
  intro w hs; have hR := hs.mask [true]
  refine dq_r hR rfl rfl rfl (fun _ w _ _ hR => r_move) ?_
  refine dq_e hR rfl rfl rfl (o_callN cb23 rfl rfl (Post := fun v _ => v = .bool false) (f23_none pv) hs (hro.old hs) ?_)
  rintro v w rfl hs
  have hR := hs.mask [true]
  refine dq_r hR rfl rfl rfl (fun _ w _ _ hR => r_move) ?_
  refine dq_n hR rfl rfl ?_
  refine dq_n hR rfl rfl ?_
  refine dq_n hR rfl rfl ?_
  refine dq_n hR rfl rfl ?_
  refine dq_n hR rfl rfl ?_
  refine dq_n hR rfl rfl ?_
  refine dq_n hR rfl rfl ?_
  refine dq_r hR rfl rfl rfl (fun _ w _ _ hR => r_pick rfl) ?_
  refine dq_r hR rfl rfl rfl (fun _ w _ _ hR => r_assign) ?_
  refine dq_z hR ?_
  refine W_ret ?_
  exact ret1 (v := .bool false) rfl (by decide) rfl (fin (c' := []) hs ⟨rfl, rfl⟩ (by simp))
theorem f14_none (pv : Value) (k : Ky) : Ctr Try.prog 14 #[pv, .agg (kc k).toArray] [] (NoBook pv) (fun v c => v = .bool false ∧ c = []) := by
  intro w0 hp hro
  have hs : St w0 (ks []) [] w0 := St.start w0
  refine calls_W (n := 78) Try.func14 rfl Try.ntmps14 (by simp) ?_
  refine W_seq ?_
  refine W_region (by decide +kernel) ?_
  refine sq_e rfl (o_box (cs := kc k) hs rfl ?_); intro b3 w hs
  refine sq_r r_assign rfl ?_
  refine sq_z ?_
  refine W_seq ?_
  refine W_seq ?_
  refine W_drawM hs Try.mixed [true] [0, 1, 3, 7, 15, 31, 63, 127, 15, 511, 1023, 2047] [1] [0, 1, 2, 3, 4, 5, 6, 7, 8, 9, 10, 11] (by decide +kernel) ?_
  intro w hs; have hR := hs.mask [true]
  refine dq_r hR rfl rfl rfl (fun _ w _ _ hR => r_move) ?_
  refine dq_e hR rfl rfl rfl (o_callN cb23 rfl rfl (Post := fun v _ => v = .bool false) (f23_none pv) hs (hro.old hs) ?_)
  rintro v w rfl hs
  have hR := hs.mask [true]
  refine dq_r hR rfl rfl rfl (fun _ w _ _ hR => r_not rfl) ?_
  refine dq_r hR rfl rfl rfl (fun _ w _ _ hR => r_move) ?_
  refine dq_n hR rfl rfl ?_
  refine dq_n hR rfl rfl ?_
  refine dq_n hR rfl rfl ?_
  refine dq_n hR rfl rfl ?_
  refine dq_n hR rfl rfl ?_
  refine dq_n hR rfl rfl ?_
  refine dq_n hR rfl rfl ?_
  refine dq_r hR rfl rfl rfl (fun _ w _ _ hR => r_pick rfl) ?_
  refine dq_z hR ?_
  refine W_cond rfl rfl (fun hc => ?_) (fun hc => ?_)
  · refine W_seq ?_
    refine W_region (by decide +kernel) ?_
    refine sq_r r_assign rfl ?_
    refine sq_z ?_
    refine W_ret ?_
    repeat with_reducible first | refine thenQ_ret ?_ | refine blockQ_ret ?_
    exact ret1 (v := .bool false) rfl (by decide) rfl (fin (c' := []) hs ⟨rfl, rfl⟩ (by simp))
  · cases hc

theorem f7_law (k : Ky) : Ctr Try.prog 7 #[encV k] [] (fun _ => True) (fun v c => v = .bool true ∧ c = []) := by
  intro w0 hp hro
  have hs : St w0 (ks []) [] w0 := St.start w0
  refine calls_W (n := 40) Try.func7 rfl Try.ntmps7 (by simp) ?_
  refine W_seq ?_
  -- region 0
  refine W_region (by decide +kernel) ?_
  refine sq_e rfl (o_box (cs := kc k) hs rfl ?_); intro b1 w hs
  refine sq_r r_assign rfl ?_
  refine sq_z ?_
  refine W_seq ?_
  refine W_seq ?_
  -- region 1
  refine W_region (by decide +kernel) ?_
  refine sq_e rfl (o_callN cb9 rfl rfl (Post := fun v _ => v = .bool true) f9_calls hs trivial ?_)
  rintro v w rfl hs
  refine sq_r (r_not rfl) rfl ?_
  refine sq_z ?_
  -- IF ('tmp', 7)
  refine W_cond rfl rfl (fun hc => ?_) (fun hc => ?_)
  · cases hc
  refine W_skip ?_
  refine W_seq ?_
  -- region 3
  refine W_region (by decide +kernel) ?_
  refine sq_r r_assign rfl ?_
  refine sq_z ?_
  refine W_seq ?_
  refine W_seq ?_
  -- region 4
  refine W_region (by decide +kernel) ?_
  refine sq_r r_move rfl ?_
  refine sq_r (r_build (v := .agg #[.map none, .map none, .int .i64 0, .int .i64 0]) (by kernel_rfl)) rfl ?_
  refine sq_e rfl (o_box (cs := [.map none, .map none, .int .i64 0, .int .i64 0]) hs rfl ?_); intro b2 w hs
  refine sq_e rfl (o_buildN [.pointer none, .pointer (some ⟨b2, 0, none⟩)] [[.pointer none], [.pointer (some ⟨b2, 0, none⟩)]] sl55 ty33 hs rfl rfl rfl (by simp) (by simp) ?_); intro b3 w hs
  refine sq_r (r_lenS Try.underlying55 rfl) rfl ?_
  refine sq_r r_move rfl ?_
  refine sq_z ?_
  refine W_block ?_ -- 0
  -- LOOP
  refine W_loop (fun (i : Nat) f w => ∃ g, f = ov [(1, .pointer (some ⟨b1, 0, none⟩)), (11, .slice (some ⟨b3, 0, none⟩) 2 2), (12, .int .i64 2), (13, .int .i64 i)] g ∧ i ≤ 2 ∧
    St w0 (ks []) [[(b1, cb (kc k) 28)], [(b2, cb [.map none, .map none, .int .i64 0, .int .i64 0] 54)], [(b3, cb [.pointer none, .pointer (some ⟨b2, 0, none⟩)] 33)]] w) (fun i => 2 - i) 0 ?_ ?_
  · exact ⟨_, ov_self ⟨rfl, rfl, rfl, rfl, trivial⟩, by omega, hs⟩
  rintro i f w ⟨g, rfl, hi, hs⟩
  refine W_seq ?_
  -- region 5
  refine W_region (by decide +kernel) ?_
  refine sq_r (r_cmp rfl rfl rfl) rfl ?_
  refine sq_z ?_
  refine W_seq ?_
  -- IF ('tmp', 14)
  refine W_cond rfl rfl (fun hc => ?_) (fun hc => ?_)
  · have hlt : i < 2 := by have := of_decide_eq_true hc; omega
    obtain ⟨pv, hpv, hno⟩ : ∃ pv, [Value.pointer none, .pointer (some ⟨b2, 0, none⟩)][0 + i * 1]? = some pv ∧ ∀ {ls : List Ck} {w : World}, St w0 (ks []) ([(b1, cb (kc k) 28)] :: [(b2, cb [.map none, .map none, .int .i64 0, .int .i64 0] 54)] :: ls) w → NoBook pv w := by
      obtain rfl | rfl : i = 0 ∨ i = 1 := by omega
      · exact ⟨_, rfl, fun _ => .inl rfl⟩
      · exact ⟨_, rfl, fun hs => .inr ⟨b2, rfl, At.one (hs.own (i := 1) rfl) rfl⟩⟩
    refine W_skip ?_
    refine W_seq ?_
    refine W_block ?_ -- 1
    refine W_seq ?_
    -- region 6
    refine W_region (by decide +kernel) ?_
    refine sq_r (r_index rfl rfl sl55 (by omega) (by omega)) rfl ?_
    refine sq_r (r_load1 rfl ty33 (At.one (hs.own (i := 2) rfl) hpv)) rfl ?_
    refine sq_r r_assign rfl ?_
    refine sq_z ?_
    refine W_seq ?_
    -- region 7
    refine W_region (by decide +kernel) ?_
    refine sq_r r_move rfl ?_
    refine sq_r (r_loadN rfl ty28 (kc_len k) (At.of_block (hs.own (i := 0) rfl) (kc_all k))) rfl ?_
    refine sq_e rfl (o_callN cb19 rfl rfl (Post := fun _ _ => True) (f19_none pv k) hs (hno hs) ?_)
    rintro v w _ hs
    refine sq_z ?_
    refine W_seq ?_
    -- region 8
    refine W_region (by decide +kernel) ?_
    refine sq_r r_move rfl ?_
    refine sq_r (r_loadN rfl ty28 (kc_len k) (At.of_block (hs.own (i := 0) rfl) (kc_all k))) rfl ?_
    refine sq_e rfl (o_callN cb14 rfl rfl (Post := fun v _ => v = .bool false) (f14_none pv k) hs (hno hs) ?_)
    rintro v w rfl hs
    refine sq_r r_move rfl ?_
    refine sq_r r_move rfl ?_ /- GUARD 3 False -/
    refine sq_r (r_loadN rfl ty28 (kc_len k) (At.of_block (hs.own (i := 0) rfl) (kc_all k))) rfl ?_
    refine sq_e rfl (o_callN cb16 rfl rfl (Post := fun v _ => v = .int .i64 0) (f16_none pv k) hs (hno hs) ?_)
    rintro v w rfl hs
    refine sq_r (r_cmp (r := false) rfl rfl rfl) rfl ?_
    refine sq_r (r_pick rfl) rfl ?_
    refine sq_r r_move rfl ?_
    refine sq_r r_move rfl ?_ /- GUARD 9 False -/
    refine sq_r (r_loadN rfl ty28 (kc_len k) (At.of_block (hs.own (i := 0) rfl) (kc_all k))) rfl ?_
    refine sq_e rfl (o_callN cb21 rfl rfl (Post := fun v _ => v = .bool false) (f21_none pv k) hs (hno hs) ?_)
    rintro v w rfl hs
    refine sq_r (r_pick rfl) rfl ?_
    refine sq_r r_move rfl ?_
    refine sq_r r_move rfl ?_ /- GUARD 14 False -/
    refine sq_e rfl (o_callN cb18 rfl rfl (Post := fun v _ => v = .int .i64 0) (f18_none pv) hs (hno hs) ?_)
    rintro v w rfl hs
    refine sq_r (r_cmp (r := false) rfl rfl rfl) rfl ?_
    refine sq_r (r_pick rfl) rfl ?_
    refine sq_z ?_
    -- IF ('tmp', 38)
    refine W_cond rfl rfl (fun hc => ?_) (fun hc => ?_)
    · cases hc
    refine W_skip ?_
    -- region 10
    refine W_region (by decide +kernel) ?_
    refine sq_r (r_add rfl rfl (wrap_small (by omega) (by omega))) rfl ?_
    refine sq_r r_move rfl ?_
    refine sq_z ?_
    exact ⟨i + 1, ⟨_, ov_self ⟨rfl, rfl, rfl, rfl, trivial⟩, by omega, hs⟩, by omega⟩
  · refine W_exit ?_ -- 0
    refine W_seq ?_
    -- region 11
    refine W_region (by decide +kernel) ?_
    refine sq_r r_assign rfl ?_
    refine sq_z ?_
    refine W_ret ?_
    exact ret1 (v := .bool true) rfl (by decide) rfl (fin (c' := []) hs ⟨rfl, rfl⟩ (by simp))

end Go.Proofs.Ytcdlbgmmogccaaa
