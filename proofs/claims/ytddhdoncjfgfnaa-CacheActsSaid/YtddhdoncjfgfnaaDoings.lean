/-
  Layer 15: what else the program's cache does: holds, Linked, Drop, Fail, Link. Conditions: the cache is whole.
-/
import Derived.Test.YtddhdoncjfgfnaaEntry
import Derived.Test.YtddhdoncjfgfnaaPure
namespace Go.Proofs.Ytddhdoncjfgfnaa
open Go.Eng

def v2 (id op : Int) : V2 := ⟨#[id, op], rfl⟩
theorem build_place (w : World) (id op : Int) : (Instr.build 87 #[(0, .int .i64 id), (1, .int .i64 op)]).run Try.prog w = .ok (encV (v2 id op)) w := by kernel_rfl

set_option maxRecDepth 20000 in
theorem f35_calls (bb : Nat) (s : C15) (c : Ck) (hc : BK bb s c) (id : Int) : Ctr Try.prog 35 #[.pointer (some ⟨bb, 0, none⟩), .int .i64 id] [] (Hp c) (fun r d => r = .bool (mget s.held.1 id).isSome ∧ d = []) := by
  intro w0 hp hro
  have hs : St w0 (ks []) [] w0 := St.start w0
  have hC : ∀ {w : World} {cs : List Ck}, St w0 (ks []) cs w → Hp c w := fun hs => hro.old hs (by simp [ks])
  have hc0 := hc
  obtain ⟨mh, mf, ml, ov0, pv, oc, pc, dc, hk, hce⟩ := hc0
  have hB : ∀ {w : World}, Hp c w → w.heap[bb]? = some (cb (bx mh mf ml ov0 pv s) 65) := fun h => h.has (bb, cb (bx mh mf ml ov0 pv s) 65) (by rw [hce]; simp)
  have hH : ∀ {w : World}, Hp c w → w.heap[mh]? = some (mo encI evT s.held.1 s.held.2) := fun h => h.has (mh, mo encI evT s.held.1 s.held.2) (by rw [hce]; simp)
  have hL : ∀ {w : World}, Hp c w → w.heap[ml]? = some (mo encV encI s.links.1 s.links.2) := fun h => h.has (ml, mo encV encI s.links.1 s.links.2) (by rw [hce]; simp)
  have hD : ∀ {w : World}, Hp c w → Hp dc w := fun h => (bk_st h hce).at (i := 6) rfl
  refine calls_W (n := 20) Try.func35 rfl Try.ntmps35 (by simp) ?_
  refine W_seq ?_
  -- region 0
  refine W_region (by decide +kernel) ?_
  refine sq_r r_assign rfl ?_
  refine sq_z ?_
  refine W_seq ?_
  refine W_seq ?_
  -- region 1
  refine W_region (by decide +kernel) ?_
  refine sq_r r_move rfl ?_
  refine sq_e rfl (o_callN cb23 rfl rfl (Post := fun v _ => v = .bool true) (f23_calls bb (some mh)) hs (At.one (hB (hC hs)) rfl) ?_)
  rintro u w rfl hs
  refine sq_r (r_not rfl) rfl ?_
  refine sq_z ?_
  refine W_cond rfl rfl (fun hz => ?_) (fun hz => ?_)
  · cases hz
  refine W_skip ?_
  refine W_seq ?_
  -- region 3
  refine W_region (by decide +kernel) ?_
  refine sq_r r_move rfl ?_
  refine sq_r (r_nilCheck rfl) rfl ?_
  refine sq_r (r_field rfl fa65_0) rfl ?_
  refine sq_r (r_load1 rfl ty62 (At.one (hB (hC hs)) rfl)) rfl ?_
  refine sq_r r_move rfl ?_
  refine sq_r (r_lookup2 (a := id) (z := zLT) KT3 Try.underlying62 (zero33 _) rfl rfl (hH (hC hs))) rfl ?_
  refine sq_r r_move rfl ?_
  refine sq_r (r_extract rfl rfl) rfl ?_
  refine sq_r (r_extract rfl rfl) rfl ?_
  refine sq_e rfl (o_alloc hs ty33 ?_); intro b0 w hs
  refine sq_e rfl (o_store (i := 0) (vs := trC (at15 s id)) hs rfl rfl (by rw [trC_len]; exact ty33) rfl ((at_held hk id).1 _ (hD (hC hs))).one (by simp [trC_len]) ?_); intro w hs
  refine sq_r r_assign rfl ?_
  refine sq_z ?_
  refine W_seq ?_
  -- region 4
  refine W_region (by decide +kernel) ?_
  refine sq_r r_move rfl ?_
  refine sq_r r_assign rfl ?_
  refine sq_z ?_
  refine W_ret ?_
  exact ret1 (v := .bool (mget s.held.1 id).isSome) rfl (by decide) rfl (fin (c' := []) hs ⟨rfl, rfl⟩ (by simp))

set_option maxRecDepth 20000 in
theorem f17_calls (bb : Nat) (s : C15) (c : Ck) (hc : BK bb s c) (id op : Int) : Ctr Try.prog 17 #[.pointer (some ⟨bb, 0, none⟩), .int .i64 id, .int .i64 op] [] (Hp c) (fun r d => r = .tuple #[.int .i64 ((mget s.links.1 (v2 id op)).getD 0), .bool (mget s.links.1 (v2 id op)).isSome] ∧ d = []) := by
  intro w0 hp hro
  have hs : St w0 (ks []) [] w0 := St.start w0
  have hC : ∀ {w : World} {cs : List Ck}, St w0 (ks []) cs w → Hp c w := fun hs => hro.old hs (by simp [ks])
  have hc0 := hc
  obtain ⟨mh, mf, ml, ov0, pv, oc, pc, dc, hk, hce⟩ := hc0
  have hB : ∀ {w : World}, Hp c w → w.heap[bb]? = some (cb (bx mh mf ml ov0 pv s) 65) := fun h => h.has (bb, cb (bx mh mf ml ov0 pv s) 65) (by rw [hce]; simp)
  have hH : ∀ {w : World}, Hp c w → w.heap[mh]? = some (mo encI evT s.held.1 s.held.2) := fun h => h.has (mh, mo encI evT s.held.1 s.held.2) (by rw [hce]; simp)
  have hL : ∀ {w : World}, Hp c w → w.heap[ml]? = some (mo encV encI s.links.1 s.links.2) := fun h => h.has (ml, mo encV encI s.links.1 s.links.2) (by rw [hce]; simp)
  have hD : ∀ {w : World}, Hp c w → Hp dc w := fun h => (bk_st h hce).at (i := 6) rfl
  refine calls_W (n := 26) Try.func17 rfl Try.ntmps17 (by simp) ?_
  refine W_seq ?_
  -- region 0
  refine W_region (by decide +kernel) ?_
  refine sq_r r_assign rfl ?_
  refine sq_r r_assign rfl ?_
  refine sq_z ?_
  refine W_seq ?_
  refine W_seq ?_
  -- region 1
  refine W_region (by decide +kernel) ?_
  refine sq_r r_move rfl ?_
  refine sq_e rfl (o_callN cb23 rfl rfl (Post := fun v _ => v = .bool true) (f23_calls bb (some mh)) hs (At.one (hB (hC hs)) rfl) ?_)
  rintro u w rfl hs
  refine sq_r (r_not rfl) rfl ?_
  refine sq_z ?_
  refine W_cond rfl rfl (fun hz => ?_) (fun hz => ?_)
  · cases hz
  refine W_skip ?_
  refine W_seq ?_
  -- region 3
  refine W_region (by decide +kernel) ?_
  refine sq_r r_move rfl ?_
  refine sq_r (r_nilCheck rfl) rfl ?_
  refine sq_r (r_field rfl fa65_3) rfl ?_
  refine sq_r (r_load1 rfl ty63 (At.one (hB (hC hs)) rfl)) rfl ?_
  refine sq_r r_move rfl ?_
  refine sq_r r_move rfl ?_
  refine sq_r (r_buildL (ps := [(0, .int .i64 id), (1, .int .i64 op)]) rfl (build_place _ id op)) rfl ?_
  refine sq_r (r_lookup2 (a := v2 id op) (z := (0 : Int)) KT87 Try.underlying63 (zero3 _) rfl rfl (hL (hC hs))) rfl ?_
  refine sq_r r_move rfl ?_
  refine sq_r (r_extract rfl rfl) rfl ?_
  refine sq_r (r_extract rfl rfl) rfl ?_
  refine sq_r r_assign rfl ?_
  refine sq_r r_assign rfl ?_
  refine sq_z ?_
  refine W_seq ?_
  -- region 4
  refine W_region (by decide +kernel) ?_
  refine sq_r r_move rfl ?_
  refine sq_r r_move rfl ?_
  refine sq_r r_assign rfl ?_
  refine sq_r r_assign rfl ?_
  refine sq_z ?_
  refine W_ret ?_
  exact ret2 (v := .int .i64 ((mget s.links.1 (v2 id op)).getD 0)) (v2 := .bool (mget s.links.1 (v2 id op)).isSome) rfl (by decide) (by decide) rfl rfl (fin (c' := []) hs ⟨rfl, rfl⟩ (by simp))

set_option maxRecDepth 20000 in
theorem f18_calls (bb : Nat) (s : C15) (c : Ck) (hc : BK bb s c) (ok : Ok s) (k : Ky) : Ctr Try.prog 18 #[.pointer (some ⟨bb, 0, none⟩), encV k] c (fun _ => True) (fun r c' => r = .bool (decide (0 < findK s k)) ∧ BK bb (dropK s k) c') := by
  intro w0 hp hro
  have hs : St w0 (ks c) [c] w0 := hp.st
  have hc0 := hc
  obtain ⟨mh, mf, ml, ov0, pv, oc, pc, dc, hk, hce⟩ := hc0
  have hB : ∀ {w : World}, Hp c w → w.heap[bb]? = some (cb (bx mh mf ml ov0 pv s) 65) := fun h => h.has (bb, cb (bx mh mf ml ov0 pv s) 65) (by rw [hce]; simp)
  have hH : ∀ {w : World}, Hp c w → w.heap[mh]? = some (mo encI evT s.held.1 s.held.2) := fun h => h.has (mh, mo encI evT s.held.1 s.held.2) (by rw [hce]; simp)
  have hL : ∀ {w : World}, Hp c w → w.heap[ml]? = some (mo encV encI s.links.1 s.links.2) := fun h => h.has (ml, mo encV encI s.links.1 s.links.2) (by rw [hce]; simp)
  have hD : ∀ {w : World}, Hp c w → Hp dc w := fun h => (bk_st h hce).at (i := 6) rfl
  refine calls_W (n := 19) Try.func18 rfl Try.ntmps18 (by simp) ?_
  refine W_seq ?_
  -- region 0
  refine W_region (by decide +kernel) ?_
  refine sq_e rfl (o_box (cs := ic k.toList) hs rfl ?_); intro b3 w hs
  refine sq_r r_assign rfl ?_
  refine sq_z ?_
  have hs : St w0 (ks c) [c, [(b3, cb (ic k.toList) 26)]] w := hs
  refine W_seq ?_
  refine W_seq ?_
  -- region 1
  refine W_region (by decide +kernel) ?_
  refine sq_r r_move rfl ?_
  refine sq_e rfl (o_callN cb23 rfl rfl (Post := fun v _ => v = .bool true) (f23_calls bb (some mh)) hs (At.one (hB (hs.at (i := 0) rfl)) rfl) ?_)
  rintro u w rfl hs
  refine sq_r (r_not rfl) rfl ?_
  refine sq_z ?_
  refine W_cond rfl rfl (fun hz => ?_) (fun hz => ?_)
  · cases hz
  refine W_skip ?_
  refine W_seq ?_
  -- region 3
  refine W_region (by decide +kernel) ?_
  refine sq_r r_move rfl ?_
  refine sq_r (r_loadN (vs := ic k.toList) rfl ty26 (by simp) (At.of_block (hs.own (i := 1) rfl) (ic_all _))) rfl ?_
  refine sq_e rfl (o_callN cb24 rfl rfl (Post := fun r _ => r = .int .i64 (findK s k)) (f24_calls bb s c hc k (by have := ok.o; have := ok.lim; omega)) hs (hs.at (i := 0) rfl) ?_)
  rintro u w rfl hs
  refine sq_r r_assign rfl ?_
  refine sq_z ?_
  refine W_mid (M := fun f w => ∃ g c1, f = ov [(5, .int .i64 (findK s k))] g ∧ BK bb (dropK s k) c1 ∧ St w0 (ks c) [c1] w) ?_ (fun f w hM => ?_)
  · -- region 4
    refine W_seq ?_
    refine W_region (by decide +kernel) ?_
    refine sq_r r_move rfl ?_
    refine sq_r (r_cmp rfl rfl rfl) rfl ?_
    refine sq_z ?_
    refine W_cond rfl rfl (fun hg => ?_) (fun hg => ?_)
    · -- region 5
      refine W_region (by decide +kernel) ?_
      refine sq_r r_move rfl ?_
      refine sq_r r_move rfl ?_
      refine sq_e rfl (o_call (i := 0) cb25 rfl rfl (f25_calls bb s c hc ok (findK s k)) hs rfl trivial ?_)
      intro u c1 w hb1 hs
      refine sq_z ?_
      exact ⟨_, c1, ov_self ⟨rfl, trivial⟩, by rw [dropK, if_pos (of_decide_eq_true hg)]; exact hb1, hs.keep (by simp)⟩
    · refine W_skip ?_
      exact ⟨_, c, ov_self ⟨rfl, trivial⟩, by rw [dropK, if_neg (of_decide_eq_false hg)]; exact hc, hs.keep (by simp)⟩
  obtain ⟨g, c1, rfl, hb1, hs⟩ := hM
  -- region 6
  refine W_seq ?_
  refine W_region (by decide +kernel) ?_
  refine sq_r r_move rfl ?_
  refine sq_r (r_cmp rfl rfl rfl) rfl ?_
  refine sq_r r_assign rfl ?_
  refine sq_z ?_
  refine W_ret ?_
  exact ret1 (v := .bool (decide (0 < findK s k))) rfl (by decide) rfl (fin (c' := c1) hs ⟨rfl, hb1⟩ (by simp))

def failV (s : C15) (k : V2) : Int := IntKind.i64.wrap ((mget s.fails.1 k).getD 0 + 1)
/-- One that failed once more. -/
def failS (s : C15) (k : V2) : C15 := { s with fails := (mput (mput s.fails.1 s.fails.2 k ((mget s.fails.1 k).getD 0)) (mclk s.fails.1 s.fails.2 k) k (failV s k), mclk s.fails.1 s.fails.2 k) }
theorem wf_again {α β : Type} [DecidableEq α] {m : List (α × β × Nat)} {c : Nat} (h : Mwf m c) (a : α) (u v : β) : Mwf (mput (mput m c a u) (mclk m c a) a v) (mclk m c a) := by
  have h1 := (h.put a u).put a v
  have hany : (mput m c a u).any (fun r => r.1 = a) = true := by
    have := mget_mput_self (c := c) (v := u) (a := a) h.keys
    obtain ⟨n, hn⟩ := (mget_mem_iff (mkeys_mput h.keys)).1 this
    exact List.any_eq_true.2 ⟨_, hn, by simp⟩
  rwa [show mclk (mput m c a u) (mclk m c a) a = mclk m c a from by unfold mclk; rw [if_pos hany]] at h1
theorem Inv.fail {s : C15} (h : Inv s) (k : V2) : Inv (failS s k) := ⟨⟨h.ok.h, wf_again h.ok.f k _ _, h.ok.l, h.ok.lim, h.ok.o, h.ok.nd, h.ok.pk, h.ok.ids, h.ok.l0⟩, h.keys, h.old⟩

set_option maxRecDepth 20000 in
set_option maxHeartbeats 1000000 in
theorem f19_calls (bb : Nat) (s : C15) (c : Ck) (hc : BK bb s c) (ok : Ok s) (id op : Int) : Ctr Try.prog 19 #[.pointer (some ⟨bb, 0, none⟩), .int .i64 id, .int .i64 op] c (fun _ => True)
    (fun r c' => r = .int .i64 (if (mget s.held.1 id).isSome then failV s (v2 id op) else 0) ∧ BK bb (if (mget s.held.1 id).isSome then failS s (v2 id op) else s) c') := by
  intro w0 hp hro
  have hs : St w0 (ks c) [c] w0 := hp.st
  have hc0 := hc
  obtain ⟨mh, mf, ml, ov0, pv, oc, pc, dc, hk, hce⟩ := hc0
  have hB : ∀ {w : World}, Hp c w → w.heap[bb]? = some (cb (bx mh mf ml ov0 pv s) 65) := fun h => h.has (bb, cb (bx mh mf ml ov0 pv s) 65) (by rw [hce]; simp)
  have hH : ∀ {w : World}, Hp c w → w.heap[mh]? = some (mo encI evT s.held.1 s.held.2) := fun h => h.has (mh, mo encI evT s.held.1 s.held.2) (by rw [hce]; simp)
  have hL : ∀ {w : World}, Hp c w → w.heap[ml]? = some (mo encV encI s.links.1 s.links.2) := fun h => h.has (ml, mo encV encI s.links.1 s.links.2) (by rw [hce]; simp)
  have hD : ∀ {w : World}, Hp c w → Hp dc w := fun h => (bk_st h hce).at (i := 6) rfl
  refine calls_W (n := 30) Try.func19 rfl Try.ntmps19 (by simp) ?_
  refine W_seq ?_
  -- region 0
  refine W_region (by decide +kernel) ?_
  refine sq_r r_assign rfl ?_
  refine sq_z ?_
  refine W_seq ?_
  refine W_seq ?_
  -- region 1
  refine W_region (by decide +kernel) ?_
  refine sq_r r_move rfl ?_
  refine sq_r r_move rfl ?_
  refine sq_e rfl (o_callN cb35 rfl rfl (Post := fun v _ => v = .bool (mget s.held.1 id).isSome) (f35_calls bb s c hc id) hs (hs.at (i := 0) rfl) ?_)
  rintro u w rfl hs
  refine sq_r (r_not rfl) rfl ?_
  refine sq_z ?_
  refine W_cond rfl rfl (fun hz => ?_) (fun hz => ?_)
  · have hz : (mget s.held.1 id).isSome = false := by simpa using hz
    refine W_seq ?_
    -- region 2
    refine W_region (by decide +kernel) ?_
    refine sq_r r_assign rfl ?_
    refine sq_z ?_
    refine W_ret ?_
    repeat with_reducible first | refine thenQ_ret ?_ | refine blockQ_ret ?_
    exact ret1 (v := .int .i64 0) rfl (by decide) rfl (fin (c' := c) hs ⟨by rw [hz]; simp, by rw [hz]; exact hc⟩ (by simp))
  have hz : (mget s.held.1 id).isSome = true := by simpa using hz
  refine W_skip ?_
  refine W_seq ?_
  have hs : St w0 (ks c) [[(bb, cb (bx mh mf ml ov0 pv s) 65)], [(mh, mo encI evT s.held.1 s.held.2)], [(mf, mo encV encI s.fails.1 s.fails.2)], [(ml, mo encV encI s.links.1 s.links.2)], oc, pc, dc] w := hs.cast (by rw [hce]; simp)
  -- region 3 DRAWS
  refine W_draw Try.mixed [0, 1, 3, 7, 0, 0, 48, 127, 255, 127, 639, 2047] [9, 11] [0, 1, 2, 3, 4, 5, 6, 7, 8, 9, 10, 11]
    (fun k w => k < 2 → w.cell? ⟨bb, 0 + 2, none⟩ = some (.map (some mf)) ∧ ∃ m' c', w.heap[mf]? = some (mo encV encI m' c') ∧ (mget m' (v2 id op)).getD 0 = (mget s.fails.1 (v2 id op)).getD 0) (by decide +kernel) ?_
  have hs := hs.drew
  have hR : ∀ k : Nat, k < 2 → ({ w with drawn := w.drawn + 1 } : World).cell? ⟨bb, 0 + 2, none⟩ = some (.map (some mf)) ∧ ∃ m' c', ({ w with drawn := w.drawn + 1 } : World).heap[mf]? = some (mo encV encI m' c') ∧ (mget m' (v2 id op)).getD 0 = (mget s.fails.1 (v2 id op)).getD 0 :=
    fun _ _ => ⟨At.one (hs.own (i := 0) rfl) rfl, _, _, hs.own (i := 2) rfl, rfl⟩
  refine dq_rp (hR _) rfl rfl rfl (fun w => r_move) ?_
  refine dq_rp (hR _) rfl rfl rfl (fun w => r_nilCheck rfl) ?_
  refine dq_rp (hR _) rfl rfl rfl (fun w => r_field rfl fa65_2) ?_
  refine dq_r (hR _) rfl rfl rfl (fun k w _ hk2 hS => r_load1 rfl ty63 (hS (Nat.lt_of_le_of_lt hk2 (by decide))).1) ?_
  refine dq_rp (hR _) rfl rfl rfl (fun w => r_move) ?_
  refine dq_rp (hR _) rfl rfl rfl (fun w => r_move) ?_
  refine dq_rp (hR _) rfl rfl rfl (fun w => r_buildL (ps := [(0, .int .i64 id), (1, .int .i64 op)]) rfl (build_place _ id op)) ?_
  refine dq_r (v := .int .i64 ((mget s.fails.1 (v2 id op)).getD 0)) (hR _) rfl rfl rfl (fun k w _ hk2 hS => by
    obtain ⟨_, m', c', hm', e⟩ := hS (Nat.lt_of_le_of_lt hk2 (by decide))
    rw [← e]
    exact r_lookup (a := v2 id op) (z := (0 : Int)) KT87 Try.underlying63 (zero3 _) rfl rfl hm') ?_
  refine dq_rp (hR _) rfl rfl rfl (fun w => r_add (c := failV s (v2 id op)) rfl rfl rfl) ?_
  refine dq_e (hR _) rfl rfl rfl (o_mapEntry (i := 2) (a := v2 id op) (z := (0 : Int)) KT87 Try.underlying63 (zero3 _) hs rfl rfl rfl ok.f.keys ?_)
  rintro n w ⟨r, hrm, hra, hrn⟩ hs
  have hR : ∀ k : Nat, k < 2 → w.cell? ⟨bb, 0 + 2, none⟩ = some (.map (some mf)) ∧ ∃ m' c', w.heap[mf]? = some (mo encV encI m' c') ∧ (mget m' (v2 id op)).getD 0 = (mget s.fails.1 (v2 id op)).getD 0 :=
    fun _ _ => ⟨At.one (hs.own (i := 0) rfl) rfl, _, _, hs.own (i := 2) rfl, by rw [mget_mput_self ok.f.keys]; rfl⟩
  refine dq_rp (hR _) rfl rfl rfl (fun w => r_extract rfl rfl) ?_
  subst hrn
  refine dq_e (hR _) rfl rfl rfl (o_entryStore (i := 2) (a := v2 id op) (v := failV s (v2 id op)) hs rfl rfl rfl rfl (ok.f.put _ _) hrm hra ?_)
  intro w hs
  refine dq_z (fun hk2 => absurd hk2 (by decide)) ?_
  have hs : St w0 (ks c) [[(bb, cb (bx mh mf ml ov0 pv s) 65)], [(mh, mo encI evT s.held.1 s.held.2)], [(mf, mo encV encI (failS s (v2 id op)).fails.1 (failS s (v2 id op)).fails.2)], [(ml, mo encV encI s.links.1 s.links.2)], oc, pc, dc] w := hs
  have hget : (mget (failS s (v2 id op)).fails.1 (v2 id op)).getD 0 = failV s (v2 id op) := by
    simp only [failS]
    rw [mget_mput_self (mkeys_mput ok.f.keys)]
    rfl
  refine W_seq ?_
  -- region 4
  refine W_region (by decide +kernel) ?_
  refine sq_r r_move rfl ?_
  refine sq_r (r_nilCheck rfl) rfl ?_
  refine sq_r (r_field rfl fa65_2) rfl ?_
  refine sq_r (r_load1 rfl ty63 (At.one (hs.own (i := 0) rfl) rfl)) rfl ?_
  refine sq_r r_move rfl ?_
  refine sq_r r_move rfl ?_
  refine sq_r (r_buildL (ps := [(0, .int .i64 id), (1, .int .i64 op)]) rfl (build_place _ id op)) rfl ?_
  refine sq_r (r_lookup (a := v2 id op) (z := (0 : Int)) KT87 Try.underlying63 (zero3 _) rfl rfl (hs.own (i := 2) rfl)) rfl ?_
  refine sq_r r_assign rfl ?_
  refine sq_z ?_
  refine W_ret ?_
  refine ret1 (v := .int .i64 ((mget (failS s (v2 id op)).fails.1 (v2 id op)).getD 0)) rfl (by decide) rfl (fin (c' := [(bb, cb (bx mh mf ml ov0 pv (failS s (v2 id op))) 65)] ++ ([(mh, mo encI evT s.held.1 s.held.2)] ++ ([(mf, mo encV encI (failS s (v2 id op)).fails.1 (failS s (v2 id op)).fails.2)] ++ ([(ml, mo encV encI s.links.1 s.links.2)] ++ (oc ++ (pc ++ dc)))))) hs ⟨by rw [hget, if_pos hz], ?_⟩ (by simp [bx, failS]))
  rw [if_pos hz]
  exact ⟨mh, mf, ml, ov0, pv, oc, pc, dc, ⟨hk.o, hk.p, hk.q, hk.h⟩, rfl⟩

def linkS (s : C15) (k : V2) (to : Int) : C15 := { s with links := (mput s.links.1 s.links.2 k to, mclk s.links.1 s.links.2 k) }
theorem Inv.link {s : C15} (h : Inv s) (k : V2) (to : Int) : Inv (linkS s k to) := ⟨⟨h.ok.h, h.ok.f, h.ok.l.put _ _, h.ok.lim, h.ok.o, h.ok.nd, h.ok.pk, h.ok.ids, h.ok.l0⟩, h.keys, h.old⟩
def linkE (s : C15) (id op to : Int) : Int := if (mget s.held.1 id).isSome && (mget s.held.1 to).isSome then (if op < 0 then 1 else 0) else 3

set_option maxRecDepth 20000 in
set_option maxHeartbeats 1000000 in
theorem f20_calls (bb : Nat) (s : C15) (c : Ck) (hc : BK bb s c) (ok : Ok s) (id op to : Int) : Ctr Try.prog 20 #[.pointer (some ⟨bb, 0, none⟩), .int .i64 id, .int .i64 op, .int .i64 to] c (fun _ => True)
    (fun r c' => r = .int .i64 (linkE s id op to) ∧ BK bb (if linkE s id op to = 0 then linkS s (v2 id op) to else s) c') := by
  intro w0 hp hro
  have hs : St w0 (ks c) [c] w0 := hp.st
  have hc0 := hc
  obtain ⟨mh, mf, ml, ov0, pv, oc, pc, dc, hk, hce⟩ := hc0
  have hB : ∀ {w : World}, Hp c w → w.heap[bb]? = some (cb (bx mh mf ml ov0 pv s) 65) := fun h => h.has (bb, cb (bx mh mf ml ov0 pv s) 65) (by rw [hce]; simp)
  have hH : ∀ {w : World}, Hp c w → w.heap[mh]? = some (mo encI evT s.held.1 s.held.2) := fun h => h.has (mh, mo encI evT s.held.1 s.held.2) (by rw [hce]; simp)
  have hL : ∀ {w : World}, Hp c w → w.heap[ml]? = some (mo encV encI s.links.1 s.links.2) := fun h => h.has (ml, mo encV encI s.links.1 s.links.2) (by rw [hce]; simp)
  have hD : ∀ {w : World}, Hp c w → Hp dc w := fun h => (bk_st h hce).at (i := 6) rfl
  refine calls_W (n := 31) Try.func20 rfl Try.ntmps20 (by simp) ?_
  refine W_seq ?_
  -- region 0
  refine W_region (by decide +kernel) ?_
  refine sq_r r_assign rfl ?_
  refine sq_z ?_
  refine W_seq ?_
  refine W_block ?_
  refine W_mid (M := fun f w => ∃ g, f = ov [(0, .pointer (some ⟨bb, 0, none⟩)), (1, .int .i64 id), (2, .int .i64 op), (3, .int .i64 to), (9, .bool (!((mget s.held.1 id).isSome && (mget s.held.1 to).isSome)))] g ∧ St w0 (ks c) [c] w) ?_ (fun f w hM => ?_)
  · -- region 1
    refine W_region (by decide +kernel) ?_
    refine sq_r r_move rfl ?_
    refine sq_r r_move rfl ?_
    refine sq_e rfl (o_callN cb35 rfl rfl (Post := fun v _ => v = .bool (mget s.held.1 id).isSome) (f35_calls bb s c hc id) hs (hs.at (i := 0) rfl) ?_)
    rintro u w rfl hs
    cases h1 : (mget s.held.1 id).isSome
    · refine sq_r (r_not rfl) rfl ?_
      refine sq_r r_move rfl ?_
      refine sq_n rfl ?_
      refine sq_n rfl ?_
      refine sq_n rfl ?_
      refine sq_n rfl ?_
      refine sq_r (r_pick (b := true) rfl) rfl ?_
      refine sq_r r_assign rfl ?_
      refine sq_z ?_
      exact ⟨_, ov_self ⟨rfl, rfl, rfl, rfl, rfl, trivial⟩, hs⟩
    · refine sq_r (r_not rfl) rfl ?_
      refine sq_r r_move rfl ?_
      refine sq_r r_move rfl ?_
      refine sq_r r_move rfl ?_
      refine sq_e rfl (o_callN cb35 rfl rfl (Post := fun v _ => v = .bool (mget s.held.1 to).isSome) (f35_calls bb s c hc to) hs (hs.at (i := 0) rfl) ?_)
      rintro u w rfl hs
      refine sq_r (r_not rfl) rfl ?_
      refine sq_r (r_pick (b := false) rfl) rfl ?_
      refine sq_r r_assign rfl ?_
      refine sq_z ?_
      exact ⟨_, ov_self ⟨rfl, rfl, rfl, rfl, rfl, trivial⟩, hs⟩
  obtain ⟨g, rfl, hs⟩ := hM
  refine W_cond rfl rfl (fun hz => ?_) (fun hz => ?_)
  · have hz : ((mget s.held.1 id).isSome && (mget s.held.1 to).isSome) = false := by
      cases h : ((mget s.held.1 id).isSome && (mget s.held.1 to).isSome)
      · rfl
      · rw [h] at hz; cases hz
    have he : linkE s id op to = 3 := by rw [linkE, hz]; rfl
    refine W_seq ?_
    -- region 2
    refine W_region (by decide +kernel) ?_
    refine sq_r r_assign rfl ?_
    refine sq_z ?_
    refine W_ret ?_
    repeat with_reducible first | refine thenQ_ret ?_ | refine blockQ_ret ?_
    exact ret1 (v := .int .i64 3) rfl (by decide) rfl (fin (c' := c) hs ⟨by rw [he], by rw [he, if_neg (by decide)]; exact hc⟩ (by simp))
  have hz : ((mget s.held.1 id).isSome && (mget s.held.1 to).isSome) = true := by
    cases h : ((mget s.held.1 id).isSome && (mget s.held.1 to).isSome)
    · rw [h] at hz; cases hz
    · rfl
  refine W_seq ?_
  -- region 3
  refine W_region (by decide +kernel) ?_
  refine sq_r r_move rfl ?_
  refine sq_r (r_cmp rfl rfl rfl) rfl ?_
  refine sq_r r_assign rfl ?_
  refine sq_z ?_
  refine W_cond rfl rfl (fun hg => ?_) (fun hg => ?_)
  · have he : linkE s id op to = 1 := by rw [linkE, hz, if_pos rfl, if_pos (of_decide_eq_true hg)]
    refine W_seq ?_
    -- region 4
    refine W_region (by decide +kernel) ?_
    refine sq_r r_assign rfl ?_
    refine sq_z ?_
    refine W_ret ?_
    repeat with_reducible first | refine thenQ_ret ?_ | refine blockQ_ret ?_
    exact ret1 (v := .int .i64 1) rfl (by decide) rfl (fin (c' := c) hs ⟨by rw [he], by rw [he, if_neg (by decide)]; exact hc⟩ (by simp))
  have he : linkE s id op to = 0 := by rw [linkE, hz, if_pos rfl, if_neg (of_decide_eq_false hg)]
  refine W_skip ?_
  have hs : St w0 (ks c) [[(bb, cb (bx mh mf ml ov0 pv s) 65)], [(mh, mo encI evT s.held.1 s.held.2)], [(mf, mo encV encI s.fails.1 s.fails.2)], [(ml, mo encV encI s.links.1 s.links.2)], oc, pc, dc] w := hs.cast (by rw [hce]; simp)
  refine W_seq ?_
  -- region 5
  refine W_region (by decide +kernel) ?_
  refine sq_r r_move rfl ?_
  refine sq_r (r_nilCheck rfl) rfl ?_
  refine sq_r (r_field rfl fa65_3) rfl ?_
  refine sq_r (r_load1 rfl ty63 (At.one (hs.own (i := 0) rfl) rfl)) rfl ?_
  refine sq_r r_move rfl ?_
  refine sq_r r_move rfl ?_
  refine sq_r (r_buildL (ps := [(0, .int .i64 id), (1, .int .i64 op)]) rfl (build_place _ id op)) rfl ?_
  refine sq_r r_move rfl ?_
  refine sq_e rfl (o_mapUpdate (i := 3) (a := v2 id op) (v := to) KT87 Try.underlying63 hs rfl rfl rfl rfl ok.l.keys ?_); intro w hs
  refine sq_z ?_
  have hs : St w0 (ks c) [[(bb, cb (bx mh mf ml ov0 pv s) 65)], [(mh, mo encI evT s.held.1 s.held.2)], [(mf, mo encV encI s.fails.1 s.fails.2)], [(ml, mo encV encI (linkS s (v2 id op) to).links.1 (linkS s (v2 id op) to).links.2)], oc, pc, dc] w := hs
  refine W_seq ?_
  -- region 6
  refine W_region (by decide +kernel) ?_
  refine sq_r r_assign rfl ?_
  refine sq_z ?_
  refine W_ret ?_
  refine ret1 (v := .int .i64 0) rfl (by decide) rfl (fin (c' := [(bb, cb (bx mh mf ml ov0 pv (linkS s (v2 id op) to)) 65)] ++ ([(mh, mo encI evT s.held.1 s.held.2)] ++ ([(mf, mo encV encI s.fails.1 s.fails.2)] ++ ([(ml, mo encV encI (linkS s (v2 id op) to).links.1 (linkS s (v2 id op) to).links.2)] ++ (oc ++ (pc ++ dc)))))) hs ⟨by rw [he], ?_⟩ (by simp [bx, linkS]))
  rw [if_pos he]
  exact ⟨mh, mf, ml, ov0, pv, oc, pc, dc, ⟨hk.o, hk.p, hk.q, hk.h⟩, rfl⟩

end Go.Proofs.Ytddhdoncjfgfnaa
