/-
  Layer 17: virtual things alike: the reference says so of the same ones. Condition: they are not many.
-/
import Derived.Test.YtfojeengapebmaaEncode
namespace Go.Proofs.Ytfojeengapebmaa
open Go.Eng

set_option maxRecDepth 20000 in
set_option maxHeartbeats 4000000 in
theorem f19_calls (u v : Value) (xs : List Vt) (hn : xs.length ≤ 1000000) (hr : ∀ x ∈ xs, x.cells.length ≤ 1000000) : Ctr Try.prog 19 #[u, v] [] (fun w => RdV (fun _ => True) u xs w ∧ RdV (fun _ => True) v xs w) (fun r c => r = .bool true ∧ c = []) := by
  intro w0 hp hro
  have hs : St w0 (ks []) [] w0 := St.start w0
  obtain ⟨⟨ua, ucap, rfl, hu⟩, ⟨va, vcap, rfl, hv⟩⟩ := hro
  refine calls_W (n := 71) Try.func19 rfl Try.ntmps19 (by simp) ?_
  refine W_seq ?_
  -- region 0
  refine W_region (by decide +kernel) ?_
  refine sq_r r_assign rfl ?_
  refine sq_z ?_
  refine W_seq ?_
  refine W_seq ?_
  -- region 1
  refine W_region (by decide +kernel) ?_
  refine sq_r r_move rfl ?_
  refine sq_r (r_lenS Try.underlying41 rfl) rfl ?_
  refine sq_r r_move rfl ?_
  refine sq_r (r_lenS Try.underlying41 rfl) rfl ?_
  refine sq_r (r_cmp (r := false) rfl rfl (by simp [cmpB])) rfl ?_
  refine sq_z ?_
  refine W_cond rfl rfl (fun hc => ?_) (fun hc => ?_)
  · cases hc
  refine W_skip ?_
  refine W_seq ?_
  refine W_seq ?_
  -- region 3
  refine W_region (by decide +kernel) ?_
  refine sq_r r_move rfl ?_
  refine sq_r (r_lenS Try.underlying41 rfl) rfl ?_
  refine sq_r r_move rfl ?_
  refine sq_z ?_
  refine W_block ?_ -- 0
  refine W_loop (fun (i : Nat) f w => ∃ g, f = ov [(0, .slice ua xs.length ucap), (1, .slice va xs.length vcap), (13, .int .i64 xs.length), (14, .int .i64 i)] g ∧ i ≤ xs.length ∧ St w0 (ks []) [] w) (fun i => xs.length - i) 0 ?_ ?_
  · exact ⟨_, ov_self ⟨rfl, rfl, rfl, rfl, trivial⟩, Nat.zero_le _, hs⟩
  clear hs
  rintro i f w ⟨g, rfl, hi, hs⟩
  refine W_seq ?_
  -- region 4
  refine W_region (by decide +kernel) ?_
  refine sq_r (r_cmp rfl rfl rfl) rfl ?_
  refine sq_z ?_
  refine W_seq ?_
  refine W_cond rfl rfl (fun hd => ?_) (fun hd => ?_)
  · have hlt : i < xs.length := by have := of_decide_eq_true hd; omega
    obtain ⟨x, hx⟩ : ∃ x, xs[i]? = some x := ⟨_, List.getElem?_eq_getElem hlt⟩
    have hxr := hr x (List.mem_of_getElem? hx)
    obtain ⟨bu, ou, cu, rfl, _, hatU, hrU⟩ := hu i x hx
    obtain ⟨bv, ow, cv, rfl, _, hatV, hrV⟩ := hv i x hx
    obtain ⟨pa, pcap, rfl, hpU⟩ := hrU
    obtain ⟨qa, qcap, rfl, hpV⟩ := hrV
    have hU : ∀ {w : World} {cs : List Ck}, St w0 (ks []) cs w → At w bu (ou + i * 2) (vtC x (.slice pa x.cells.length pcap)) := fun hs => at_keep hs (by simp [ks]) (by simp [vtC]) hatU
    have hV : ∀ {w : World} {cs : List Ck}, St w0 (ks []) cs w → At w bv (ow + i * 2) (vtC x (.slice qa x.cells.length qcap)) := fun hs => at_keep hs (by simp [ks]) (by simp [vtC]) hatV
    refine W_skip ?_
    refine W_seq ?_
    refine W_block ?_ -- 1
    refine W_seq ?_
    -- region 5
    refine W_region (by decide +kernel) ?_
    refine sq_r r_move rfl ?_
    refine sq_r r_assign rfl ?_
    refine sq_z ?_
    refine W_seq ?_
    refine W_seq ?_
    -- region 6 DRAWS
    refine W_drawM hs Try.mixed [] [0, 0, 3, 7, 15, 0, 0, 96, 224, 480, 1023, 2047, 4095, 4095, 16383, 32767, 65535, 131071, 4095, 4095, 790527, 1839103, 3936255, 8130559, 16777215, 33554431] [] [0, 1, 2, 3, 4, 5, 6, 7, 8, 9, 10, 11, 12, 13, 14, 15, 16, 17, 18, 19, 20, 21, 22, 23, 24, 25] (by decide +kernel) ?_
    intro w hs; have hR := hs.mask []
    refine dq_r hR rfl rfl rfl (fun _ w _ _ hR => r_move) ?_
    refine dq_r hR rfl rfl rfl (fun _ w _ _ hR => r_move) ?_
    refine dq_r hR rfl rfl rfl (fun _ w _ _ hR => r_index rfl rfl sl41 (by omega) (by omega)) ?_
    refine dq_r hR rfl rfl rfl (fun _ w _ _ hR => r_field rfl fa76_0) ?_
    refine dq_r hR rfl rfl rfl (fun _ w _ _ hR => r_load1 rfl ty3 (hU hR 0 (.int .i64 x.rc) rfl)) ?_
    refine dq_r hR rfl rfl rfl (fun _ w _ _ hR => r_move) ?_
    refine dq_r hR rfl rfl rfl (fun _ w _ _ hR => r_move) ?_
    refine dq_r hR rfl rfl rfl (fun _ w _ _ hR => r_index rfl rfl sl41 (by omega) (by omega)) ?_
    refine dq_r hR rfl rfl rfl (fun _ w _ _ hR => r_field rfl fa76_0) ?_
    refine dq_r hR rfl rfl rfl (fun _ w _ _ hR => r_load1 rfl ty3 (hV hR 0 (.int .i64 x.rc) rfl)) ?_
    refine dq_r hR rfl rfl rfl (fun _ w _ _ hR => r_cmp (r := false) rfl rfl (by simp [cmpB])) ?_
    refine dq_r hR rfl rfl rfl (fun _ w _ _ hR => r_move) ?_
    refine dq_r hR rfl rfl rfl (fun _ w _ _ hR => r_move) ?_
    refine dq_r hR rfl rfl rfl (fun _ w _ _ hR => r_move) ?_
    refine dq_r hR rfl rfl rfl (fun _ w _ _ hR => r_index rfl rfl sl41 (by omega) (by omega)) ?_
    refine dq_r hR rfl rfl rfl (fun _ w _ _ hR => r_field rfl fa76_1) ?_
    refine dq_r hR rfl rfl rfl (fun _ w _ _ hR => r_load1 rfl ty37 (hU hR 1 _ rfl)) ?_
    refine dq_r hR rfl rfl rfl (fun _ w _ _ hR => r_lenS Try.underlying37 rfl) ?_
    refine dq_r hR rfl rfl rfl (fun _ w _ _ hR => r_move) ?_
    refine dq_r hR rfl rfl rfl (fun _ w _ _ hR => r_move) ?_
    refine dq_r hR rfl rfl rfl (fun _ w _ _ hR => r_index rfl rfl sl41 (by omega) (by omega)) ?_
    refine dq_r hR rfl rfl rfl (fun _ w _ _ hR => r_field rfl fa76_1) ?_
    refine dq_r hR rfl rfl rfl (fun _ w _ _ hR => r_load1 rfl ty37 (hV hR 1 _ rfl)) ?_
    refine dq_r hR rfl rfl rfl (fun _ w _ _ hR => r_lenS Try.underlying37 rfl) ?_
    refine dq_r hR rfl rfl rfl (fun _ w _ _ hR => r_cmp (r := false) rfl rfl (by simp [cmpB])) ?_
    refine dq_r hR rfl rfl rfl (fun _ w _ _ hR => r_pick (b := false) rfl) ?_
    refine dq_z hR ?_
    refine W_cond rfl rfl (fun hc => ?_) (fun hc => ?_)
    · cases hc
    refine W_skip ?_
    refine W_seq ?_
    -- region 8
    refine W_region (by decide +kernel) ?_
    refine sq_r r_move rfl ?_
    refine sq_r r_move rfl ?_
    refine sq_r (r_index rfl rfl sl41 (by omega) (by omega)) rfl ?_
    refine sq_r (r_field rfl fa76_1) rfl ?_
    refine sq_r (r_load1 rfl ty37 (hU hs 1 _ rfl)) rfl ?_
    refine sq_r (r_lenS Try.underlying37 rfl) rfl ?_
    refine sq_r r_move rfl ?_
    refine sq_z ?_
    refine W_block ?_ -- 2
    refine W_loop (fun (j : Nat) f w => ∃ g, f = ov [(0, .slice (some ⟨bu, ou, none⟩) xs.length ucap), (1, .slice (some ⟨bv, ow, none⟩) xs.length vcap), (13, .int .i64 xs.length), (14, .int .i64 i), (5, .int .i64 i), (48, .int .i64 x.cells.length), (49, .int .i64 j)] g ∧ j ≤ x.cells.length ∧ St w0 (ks []) [] w) (fun j => x.cells.length - j) 0 ?_ ?_
    · exact ⟨_, ov_self ⟨rfl, rfl, rfl, rfl, rfl, rfl, rfl, trivial⟩, Nat.zero_le _, hs⟩
    clear hs
    rintro j f w ⟨g, rfl, hj, hs⟩
    refine W_seq ?_
    -- region 9
    refine W_region (by decide +kernel) ?_
    refine sq_r (r_cmp rfl rfl rfl) rfl ?_
    refine sq_z ?_
    refine W_seq ?_
    refine W_cond rfl rfl (fun hd2 => ?_) (fun hd2 => ?_)
    · have hlt2 : j < x.cells.length := by have := of_decide_eq_true hd2; omega
      obtain ⟨y, hy⟩ : ∃ y, x.cells[j]? = some y := ⟨_, List.getElem?_eq_getElem hlt2⟩
      obtain ⟨cb1, co1, rfl, _, hy1⟩ := hpU j y hy
      obtain ⟨cb2, co2, rfl, _, hy2⟩ := hpV j y hy
      have hYu : ∀ {w : World} {cs : List Ck}, St w0 (ks []) cs w → At w cb1 (co1 + j * 4) (scF y) := fun hs => at_keep hs (by simp [ks]) (by rw [scF_len]; decide) hy1
      have hYv : ∀ {w : World} {cs : List Ck}, St w0 (ks []) cs w → At w cb2 (co2 + j * 4) (scF y) := fun hs => at_keep hs (by simp [ks]) (by rw [scF_len]; decide) hy2
      refine W_skip ?_
      refine W_seq ?_
      refine W_block ?_ -- 3
      refine W_seq ?_
      -- region 10
      refine W_region (by decide +kernel) ?_
      refine sq_r r_move rfl ?_
      refine sq_r r_assign rfl ?_
      refine sq_z ?_
      refine W_seq ?_
      -- region 11 DRAWS
      refine W_drawM hs Try.mixed [] [0, 0, 3, 7, 15, 0, 63, 127, 0, 0, 768, 1792, 3840, 0, 16128, 32512, 65535] [] [0, 1, 2, 3, 4, 5, 6, 7, 8, 9, 10, 11, 12, 13, 14, 15, 16] (by decide +kernel) ?_
      intro w hs; have hR := hs.mask []
      refine dq_r hR rfl rfl rfl (fun _ w _ _ hR => r_move) ?_
      refine dq_r hR rfl rfl rfl (fun _ w _ _ hR => r_move) ?_
      refine dq_r hR rfl rfl rfl (fun _ w _ _ hR => r_index rfl rfl sl41 (by omega) (by omega)) ?_
      refine dq_r hR rfl rfl rfl (fun _ w _ _ hR => r_field rfl fa76_1) ?_
      refine dq_r hR rfl rfl rfl (fun _ w _ _ hR => r_load1 rfl ty37 (hU hR 1 _ rfl)) ?_
      refine dq_r hR rfl rfl rfl (fun _ w _ _ hR => r_move) ?_
      refine dq_r hR rfl rfl rfl (fun _ w _ _ hR => r_index rfl rfl sl37 (by omega) (by omega)) ?_
      refine dq_r hR rfl rfl rfl (fun _ w _ _ hR => r_loadN (vs := scF y) rfl ty69 (scF_len y) (hYu hR)) ?_
      refine dq_r hR rfl rfl rfl (fun _ w _ _ hR => r_move) ?_
      refine dq_r hR rfl rfl rfl (fun _ w _ _ hR => r_move) ?_
      refine dq_r hR rfl rfl rfl (fun _ w _ _ hR => r_index rfl rfl sl41 (by omega) (by omega)) ?_
      refine dq_r hR rfl rfl rfl (fun _ w _ _ hR => r_field rfl fa76_1) ?_
      refine dq_r hR rfl rfl rfl (fun _ w _ _ hR => r_load1 rfl ty37 (hV hR 1 _ rfl)) ?_
      refine dq_r hR rfl rfl rfl (fun _ w _ _ hR => r_move) ?_
      refine dq_r hR rfl rfl rfl (fun _ w _ _ hR => r_index rfl rfl sl37 (by omega) (by omega)) ?_
      refine dq_r hR rfl rfl rfl (fun _ w _ _ hR => r_loadN (vs := scF y) rfl ty69 (scF_len y) (hYv hR)) ?_
      refine dq_r hR rfl rfl rfl (fun _ w _ _ hR => r_neS (a := y) (b := y) Try.underlying69 flat69 (by decide) (by kernel_rfl) rfl rfl) ?_
      refine dq_z hR ?_
      refine W_cond rfl (b := false) (by simp [ev, put, upd]) (fun hc => ?_) (fun hc => ?_)
      · cases hc
      refine W_skip ?_
      -- region 13
      refine W_region (by decide +kernel) ?_
      refine sq_r (r_add rfl rfl (wrap_small (by omega) (by omega))) rfl ?_
      refine sq_r r_move rfl ?_
      refine sq_z ?_
      exact ⟨j + 1, ⟨_, ov_self ⟨rfl, rfl, rfl, rfl, rfl, rfl, rfl, trivial⟩, by omega, hs⟩, by omega⟩
    · refine W_exit ?_ -- 2
      -- region 14
      refine W_region (by decide +kernel) ?_
      refine sq_r (r_add rfl rfl (wrap_small (by omega) (by omega))) rfl ?_
      refine sq_r r_move rfl ?_
      refine sq_z ?_
      exact ⟨i + 1, ⟨_, ov_self ⟨rfl, rfl, rfl, rfl, trivial⟩, by omega, hs⟩, by omega⟩
  · refine W_exit ?_ -- 0
    refine W_seq ?_
    -- region 15
    refine W_region (by decide +kernel) ?_
    refine sq_r r_assign rfl ?_
    refine sq_z ?_
    refine W_ret ?_
    exact ret1 (v := .bool true) rfl (by decide) rfl (fin (c' := []) hs ⟨rfl, rfl⟩ (by simp))

end Go.Proofs.Ytfojeengapebmaa
