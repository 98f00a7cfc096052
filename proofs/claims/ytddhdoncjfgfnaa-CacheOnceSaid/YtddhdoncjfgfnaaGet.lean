/-
  Layer 15: what is told: Get, Keys, Most; a trace with a key (of). Conditions: the cache is whole.
-/
import Derived.Test.YtddhdoncjfgfnaaPut
namespace Go.Proofs.Ytddhdoncjfgfnaa
open Go.Eng

/-- The trace of an id. -/
def at15 (s : C15) (id : Int) : LT := (mget s.held.1 id).getD zLT
theorem at_held {s : C15} {ov pv : Value} {oc pc dc : Ck} (hk : Bk s ov pv oc pc dc) (id : Int) : Held (at15 s id) dc ∧ (at15 s id).small := by
  unfold at15
  cases h : mget s.held.1 id with
  | none => exact ⟨Held.z dc, small_z⟩
  | some y =>
    unfold mget at h
    obtain ⟨r, hr, rfl⟩ := Option.map_eq_some_iff.1 h
    exact hk.h r (List.mem_of_find?_eq_some hr)

set_option maxRecDepth 20000 in
set_option maxHeartbeats 1000000 in
theorem f11_calls (bb : Nat) (s : C15) (c : Ck) (hc : BK bb s c) (k : Ky) (hn : s.order.length ≤ 2000000) : Ctr Try.prog 11 #[.pointer (some ⟨bb, 0, none⟩), encV k] [] (Hp c)
    (fun r d => (findK s k = 0 ∧ r = .tuple #[evT zLT, .int .i64 0, .bool false] ∧ d = []) ∨ (findK s k ≠ 0 ∧ ∃ y ci cbk co cl cv dd, r = .tuple #[evT y, .int .i64 (findK s k), .bool true] ∧ y.t = (at15 s (findK s k)).t ∧ Own y ci co cl cv cbk dd ∧ d = ci ++ (cbk ++ (co ++ (cl ++ (cv ++ dd)))))) := by
  intro w0 hp hro
  have hs : St w0 (ks []) [] w0 := St.start w0
  obtain ⟨mh, mf, ml, ov0, pv, oc, pc, dc, hk, hce⟩ := id hc
  have hC : ∀ {w : World} {cs : List Ck}, St w0 (ks []) cs w → Hp c w := fun hs => hro.old hs (by simp [ks])
  have hB : ∀ {w : World}, Hp c w → w.heap[bb]? = some (cb (bx mh mf ml ov0 pv s) 65) := fun h => h.has (bb, cb (bx mh mf ml ov0 pv s) 65) (by rw [hce]; simp)
  have hH : ∀ {w : World}, Hp c w → w.heap[mh]? = some (mo encI evT s.held.1 s.held.2) := fun h => h.has (mh, mo encI evT s.held.1 s.held.2) (by rw [hce]; simp)
  have hD : ∀ {w : World}, Hp c w → Hp dc w := fun h => (bk_st h hce).at (i := 6) rfl
  refine calls_W (n := 26) Try.func11 rfl Try.ntmps11 (by simp) ?_
  refine W_seq ?_
  -- region 0
  refine W_region (by decide +kernel) ?_
  refine sq_e rfl (o_box (cs := ic k.toList) hs rfl ?_); intro b3 w hs
  refine sq_e rfl (o_alloc hs ty33 ?_); intro b4 w hs
  refine sq_r r_assign rfl ?_
  refine sq_r r_assign rfl ?_
  refine sq_z ?_
  have hs : St w0 (ks []) [[(b3, cb (ic k.toList) 26)], [(b4, cb (trC zLT) 33)]] w := hs
  refine W_seq ?_
  refine W_seq ?_
  -- region 1
  refine W_region (by decide +kernel) ?_
  refine sq_r r_move rfl ?_
  refine sq_e rfl (o_callN cb23 rfl rfl (Post := fun v _ => v = .bool true) (f23_calls bb (some mh)) hs (At.one (hB (hC hs)) rfl) ?_)
  rintro u w rfl hs
  refine sq_r (r_not rfl) rfl ?_
  refine sq_z ?_
  refine W_cond rfl rfl (fun hz => ?_) (fun hz => ?_)
  · cases hz
  refine W_skip ?_
  refine W_seq ?_
  -- region 3
  refine W_region (by decide +kernel) ?_
  refine sq_r r_move rfl ?_
  refine sq_r (r_loadN (vs := ic k.toList) rfl ty26 (by simp) (At.of_block (hs.own (i := 0) rfl) (ic_all _))) rfl ?_
  refine sq_e rfl (o_callN cb24 rfl rfl (Post := fun r _ => r = .int .i64 (findK s k)) (f24_calls bb s c hc k hn) hs (hC hs) ?_)
  rintro u w rfl hs
  refine sq_r r_assign rfl ?_
  refine sq_z ?_
  refine W_seq ?_
  refine W_seq ?_
  -- region 4
  refine W_region (by decide +kernel) ?_
  refine sq_r r_move rfl ?_
  refine sq_r (r_cmp rfl rfl rfl) rfl ?_
  refine sq_z ?_
  refine W_cond rfl rfl (fun hz => ?_) (fun hz => ?_)
  · have hz : findK s k = 0 := by simpa using hz
    refine W_seq ?_
    -- region 5
    refine W_region (by decide +kernel) ?_
    refine sq_r (r_build (v := evT zLT) (by kernel_rfl)) rfl ?_
    refine sq_e rfl (o_store (i := 1) (vs := trC zLT) hs rfl rfl ty33 rfl (RdT.z (B := fun _ => True) (w := w)).one (by simp [trC_len]) ?_); intro w hs
    refine sq_r r_assign rfl ?_
    refine sq_r r_assign rfl ?_
    refine sq_z ?_
    have hs : St w0 (ks []) [[(b3, cb (ic k.toList) 26)], [(b4, cb (trC zLT) 33)]] w := hs
    refine W_ret ?_
    repeat with_reducible first | refine thenQ_ret ?_ | refine blockQ_ret ?_
    exact retC2 (T := 33) (v := .int .i64 0) (v2 := .bool false) rfl (by decide) (by decide) (by decide) rfl (hs.own (i := 1) rfl) ty33 rfl rfl (fin (c' := []) hs (.inl ⟨hz, rfl, rfl⟩) (by simp))
  have hz : findK s k ≠ 0 := by simpa using hz
  refine W_skip ?_
  refine W_seq ?_
  -- region 6
  refine W_region (by decide +kernel) ?_
  refine sq_r r_move rfl ?_
  refine sq_r (r_nilCheck rfl) rfl ?_
  refine sq_r (r_field rfl fa65_0) rfl ?_
  refine sq_r (r_load1 rfl ty62 (At.one (hB (hC hs)) rfl)) rfl ?_
  refine sq_r r_move rfl ?_
  refine sq_r (r_lookup (a := findK s k) (z := zLT) KT3 Try.underlying62 (zero33 _) rfl rfl (hH (hC hs))) rfl ?_
  refine sq_e rfl (o_call0 cb27 rfl rfl (f27_calls (at15 s (findK s k)) (· ∈ ks dc) (at_held hk _).2) hs ((at_held hk _).1 _ (hD (hC hs))) ?_)
  rintro r d w ⟨y, ci, cbk, co, cl, cv, dd, rfl, hyt, hown, hde⟩ hs
  have hy1 := (hown.rd (by rw [← hde]; exact hs.at (i := 2) rfl)).one
  refine sq_r r_move rfl ?_
  refine sq_e rfl (o_store (i := 1) (vs := trC y) hs rfl rfl (by rw [trC_len]; exact ty33) rfl hy1 (by simp [trC_len]) ?_); intro w hs
  refine sq_r r_assign rfl ?_
  refine sq_r r_assign rfl ?_
  refine sq_z ?_
  have hs : St w0 (ks []) [[(b3, cb (ic k.toList) 26)], [(b4, cb (trC y) 33)], d] w := hs.cast (by rw [show spl (trC zLT) 0 (trC y) = trC y from spl_all (by simp [trC_len])]; simp)
  refine W_ret ?_
  refine retC2 (T := 33) (v := .int .i64 (findK s k)) (v2 := .bool true) rfl (by decide) (by decide) (by decide) rfl (hs.own (i := 1) rfl) (by rw [trC_len]; exact ty33) rfl rfl (fin (c' := d) hs (.inr ⟨hz, y, ci, cbk, co, cl, cv, dd, rfl, hyt, hown, hde⟩) ?_)
  simp

abbrev kF (k : Ky) : List Value := ic k.toList
theorem kF_len (k : Ky) : (kF k).length = 10 := by simp [kF]

set_option maxRecDepth 20000 in
set_option maxHeartbeats 1000000 in
theorem f13_calls (bb : Nat) (s : C15) (c : Ck) (hc : BK bb s c) (hn : s.order.length ≤ 2000000) : Ctr Try.prog 13 #[.pointer (some ⟨bb, 0, none⟩)] [] (Hp c)
    (fun r d => Sl 26 10 r s.order.length ((s.order.map (keyOf s)).flatMap kF) d) := by
  intro w0 hp hro
  have hs : St w0 (ks []) [] w0 := St.start w0
  have hmax : 20000000000000 ≤ maxLen := by decide +kernel
  obtain ⟨mh, mf, ml, ov0, pv, oc, pc, dc, hk, hce⟩ := id hc
  obtain ⟨oa, ocap, rfl⟩ := hk.o.len
  have hC : ∀ {w : World} {cs : List Ck}, St w0 (ks []) cs w → Hp c w := fun hs => hro.old hs (by simp [ks])
  have hB : ∀ {w : World}, Hp c w → w.heap[bb]? = some (cb (bx mh mf ml (.slice oa s.order.length ocap) pv s) 65) := fun h => h.has (bb, cb (bx mh mf ml (.slice oa s.order.length ocap) pv s) 65) (by rw [hce]; simp)
  have hH : ∀ {w : World}, Hp c w → w.heap[mh]? = some (mo encI evT s.held.1 s.held.2) := fun h => h.has (mh, mo encI evT s.held.1 s.held.2) (by rw [hce]; simp)
  have hO : ∀ {w : World}, Hp c w → Hp oc w := fun h => (bk_st h hce).at (i := 4) rfl
  refine calls_W (n := 30) Try.func13 rfl Try.ntmps13 (by simp) ?_
  refine W_seq ?_
  -- region 0
  refine W_region (by decide +kernel) ?_
  refine sq_r r_assign rfl ?_
  refine sq_z ?_
  refine W_seq ?_
  refine W_seq ?_
  -- region 1
  refine W_region (by decide +kernel) ?_
  refine sq_r r_move rfl ?_
  refine sq_e rfl (o_callN cb23 rfl rfl (Post := fun v _ => v = .bool true) (f23_calls bb (some mh)) hs (At.one (hB (hC hs)) rfl) ?_)
  rintro u w rfl hs
  refine sq_r (r_not rfl) rfl ?_
  refine sq_z ?_
  refine W_cond rfl rfl (fun hz => ?_) (fun hz => ?_)
  · cases hz
  refine W_skip ?_
  refine W_seq ?_
  -- region 3
  refine W_region (by decide +kernel) ?_
  refine sq_r r_assign rfl ?_
  refine sq_z ?_
  refine W_seq ?_
  refine W_seq ?_
  -- region 4
  refine W_region (by decide +kernel) ?_
  refine sq_r r_move rfl ?_
  refine sq_r (r_nilCheck rfl) rfl ?_
  refine sq_r (r_field rfl fa65_1) rfl ?_
  refine sq_r (r_load1 rfl ty27 (At.one (hB (hC hs)) rfl)) rfl ?_
  refine sq_r (r_lenS Try.underlying27 rfl) rfl ?_
  refine sq_r r_move rfl ?_
  refine sq_z ?_
  refine W_block ?_ -- 0
  -- LOOP
  refine W_loop (fun (i : Nat) f w => ∃ g u d, f = ov [(0, .pointer (some ⟨bb, 0, none⟩)), (3, u), (12, .slice oa s.order.length ocap), (13, .int .i64 s.order.length), (14, .int .i64 i)] g ∧ i ≤ s.order.length ∧ Sl 26 10 u i (((s.order.take i).map (keyOf s)).flatMap kF) d ∧ St w0 (ks []) [d] w) (fun i => s.order.length - i) 0 ?_ ?_
  · exact ⟨_, _, [], ov_self ⟨rfl, rfl, rfl, rfl, rfl, trivial⟩, Nat.zero_le _, Sl.nil 26 10, hs.cast (by simp)⟩
  clear hs
  rintro i f w ⟨g, u, d, rfl, hi, hu, hs⟩
  refine W_seq ?_
  -- region 5
  refine W_region (by decide +kernel) ?_
  refine sq_r (r_cmp rfl rfl rfl) rfl ?_
  refine sq_z ?_
  refine W_seq ?_
  refine W_cond rfl rfl (fun hd => ?_) (fun hd => ?_)
  · have hlt : i < s.order.length := by have := of_decide_eq_true hd; omega
    obtain ⟨x, hx⟩ : ∃ x, s.order[i]? = some x := ⟨_, List.getElem?_eq_getElem hlt⟩
    obtain ⟨ob, ocap', hoe, hcell⟩ := hk.o.int hx (hO (hC hs))
    simp only [Value.slice.injEq, true_and] at hoe
    obtain ⟨rfl, rfl⟩ := hoe
    refine W_skip ?_
    refine W_seq ?_
    refine W_block ?_ -- 1
    refine W_seq ?_
    -- region 6
    refine W_region (by decide +kernel) ?_
    refine sq_r (r_index rfl rfl sl27 (by omega) (by omega)) rfl ?_
    refine sq_r (r_load1 rfl ty3 hcell) rfl ?_
    refine sq_r r_assign rfl ?_
    refine sq_z ?_
    -- region 7
    refine W_region (by decide +kernel) ?_
    refine sq_r r_move rfl ?_
    refine sq_r r_move rfl ?_
    refine sq_r (r_nilCheck rfl) rfl ?_
    refine sq_r (r_field rfl fa65_0) rfl ?_
    refine sq_r (r_load1 rfl ty62 (At.one (hB (hC hs)) rfl)) rfl ?_
    refine sq_r r_move rfl ?_
    refine sq_r (r_lookup (a := x) (z := zLT) KT3 Try.underlying62 (zero33 _) rfl rfl (hH (hC hs))) rfl ?_
    refine sq_r (r_key (y := at15 s x) rfl fd33_0 ty26) rfl ?_
    refine sq_e rfl (o_buildN [encV (keyOf s x)] [kF (keyOf s x)] sl45 ty26 hs rfl rfl rfl (by simp) (by simp) ?_); intro b9 w hs
    refine sq_e rfl (o_append (i := 0) (m := 1) (news := kF (keyOf s x)) (soff := 0) (sb := b9) (scap := 1) sl45 ty26 rfl hs rfl rfl rfl hu (by simp) (At.of_block (hs.own (i := 1) rfl) (by rw [show [kF (keyOf s x)].flatten = kF (keyOf s x) from by simp]; exact ic_all _)) (ic_one _) (by omega) (by omega) ?_)
    intro u2 d2 w hu2 hs
    refine sq_r r_assign rfl ?_
    refine sq_z ?_
    -- region 8
    refine W_region (by decide +kernel) ?_
    refine sq_r (r_add rfl rfl (wrap_small (by omega) (by omega))) rfl ?_
    refine sq_r r_move rfl ?_
    refine sq_z ?_
    refine ⟨i + 1, ⟨_, u2, d2, ov_self ⟨rfl, rfl, rfl, rfl, rfl, trivial⟩, by omega, ?_, (hs.mask [true, false]).cast (by simp [zipMask])⟩, by omega⟩
    rw [List.take_add_one, hx]
    simp only [Option.toList_some, List.map_append, List.map_cons, List.map_nil, List.flatMap_append, List.flatMap_cons, List.flatMap_nil, List.append_nil]
    exact hu2
  · have hin : i = s.order.length := by have := of_decide_eq_false hd; omega
    subst hin
    rw [List.take_length] at hu
    refine W_exit ?_ -- 0
    refine W_seq ?_
    -- region 9
    refine W_region (by decide +kernel) ?_
    refine sq_r r_move rfl ?_
    refine sq_r r_assign rfl ?_
    refine sq_z ?_
    refine W_ret ?_
    exact ret1 (v := u) rfl (by decide) rfl (fin (c' := d) hs hu (by simp))

set_option maxRecDepth 20000 in
theorem f16_calls (bb : Nat) (s : C15) (c : Ck) (hc : BK bb s c) : Ctr Try.prog 16 #[.pointer (some ⟨bb, 0, none⟩)] [] (Hp c) (fun r d => r = .int .i64 s.most ∧ d = []) := by
  intro w0 hp hro
  have hs : St w0 (ks []) [] w0 := St.start w0
  obtain ⟨mh, mf, ml, ov0, pv, oc, pc, dc, hk, hce⟩ := id hc
  have hC : ∀ {w : World} {cs : List Ck}, St w0 (ks []) cs w → Hp c w := fun hs => hro.old hs (by simp [ks])
  have hB : ∀ {w : World}, Hp c w → w.heap[bb]? = some (cb (bx mh mf ml ov0 pv s) 65) := fun h => h.has (bb, cb (bx mh mf ml ov0 pv s) 65) (by rw [hce]; simp)
  refine calls_W (n := 10) Try.func16 rfl Try.ntmps16 (by simp) ?_
  refine W_seq ?_
  -- region 0
  refine W_region (by decide +kernel) ?_
  refine sq_r r_assign rfl ?_
  refine sq_z ?_
  refine W_seq ?_
  refine W_seq ?_
  -- region 1
  refine W_region (by decide +kernel) ?_
  refine sq_r r_move rfl ?_
  refine sq_e rfl (o_callN cb23 rfl rfl (Post := fun v _ => v = .bool true) (f23_calls bb (some mh)) hs (At.one (hB (hC hs)) rfl) ?_)
  rintro u w rfl hs
  refine sq_r (r_not rfl) rfl ?_
  refine sq_z ?_
  refine W_cond rfl rfl (fun hz => ?_) (fun hz => ?_)
  · cases hz
  refine W_skip ?_
  refine W_seq ?_
  -- region 3
  refine W_region (by decide +kernel) ?_
  refine sq_r r_move rfl ?_
  refine sq_r (r_nilCheck rfl) rfl ?_
  refine sq_r (r_field rfl fa65_7) rfl ?_
  refine sq_r (r_load1 rfl ty3 (At.one (v := .int .i64 s.most) (hB (hC hs)) rfl)) rfl ?_
  refine sq_r r_assign rfl ?_
  refine sq_z ?_
  refine W_ret ?_
  exact ret1 (v := .int .i64 s.most) rfl (by decide) rfl (fin (c' := []) hs ⟨rfl, rfl⟩ (by simp))

def kN (n : Int) : Ky := ⟨#[n, 0, 0, 0, 0, 0, 0, 0, 0, 0], rfl⟩
def ofT (n : Int) : LT := { zLT with key := kN n }
theorem build_key (w : World) (n : Int) : (Instr.build 26 #[(0, .int .i64 n)]).run Try.prog w = .ok (encV (kN n)) w := by kernel_rfl
theorem build_tr (w : World) (n : Int) : (Instr.build 33 #[(0, encV (kN n))]).run Try.prog w = .ok (evT (ofT n)) w := by kernel_rfl
theorem rd_of {B : Nat → Prop} {w : World} (n : Int) : RdT B (ofT n) w := ⟨RdG.nil, RdG.nil, RdG.nil, RdG.nil, RdG.nil, by simp [ofT, zLT], by simp [ofT, zLT], by simp [ofT, zLT]⟩
theorem small_of (n : Int) : (ofT n).small := ⟨by simp [ofT, zLT], by simp [ofT, zLT], by simp [ofT, zLT], by simp [ofT, zLT], by simp [ofT, zLT], by simp [ofT, zLT], by simp [ofT, zLT], by simp [ofT, zLT]⟩
set_option maxRecDepth 20000 in
theorem f21_calls (n : Int) : Ctr Try.prog 21 #[.int .i64 n] [] (fun _ => True) (fun r d => r = evT (ofT n) ∧ d = []) := by
  intro w0 hp hro
  have hs : St w0 (ks []) [] w0 := St.start w0
  refine calls_W (n := 6) Try.func21 rfl Try.ntmps21 (by simp) ?_
  refine W_seq ?_
  -- region 0
  refine W_region (by decide +kernel) ?_
  refine sq_e rfl (o_alloc hs ty33 ?_); intro b4 w hs
  refine sq_z ?_
  refine W_seq ?_
  -- region 1
  refine W_region (by decide +kernel) ?_
  refine sq_r r_move rfl ?_
  refine sq_r (r_buildL (ps := [(0, .int .i64 n)]) rfl (build_key _ n)) rfl ?_
  refine sq_r (r_buildL (ps := [(0, encV (kN n))]) rfl (build_tr _ n)) rfl ?_
  refine sq_e rfl (o_store (i := 0) (vs := trC (ofT n)) hs rfl rfl ty33 rfl (rd_of (B := fun _ => True) (w := w) n).one (by simp [trC_len]) ?_); intro w hs
  refine sq_z ?_
  have hs : St w0 (ks []) [[(b4, cb (trC (ofT n)) 33)]] w := hs
  refine W_ret ?_
  exact retC (T := 33) rfl (by decide) rfl (hs.own (i := 0) rfl) ty33 (fin (c' := []) hs ⟨rfl, rfl⟩ (by simp))

end Go.Proofs.Ytddhdoncjfgfnaa
