/-
  Layer 15: the law CacheApart: what is held is nobody else's: changed outside it stays as it is. Condition: the trace is not long.
-/
import Derived.Test.YtddhdoncjfgfnaaSize
namespace Go.Proofs.Ytddhdoncjfgfnaa
open Go.Eng

theorem st_out0 {w0 w : World} {cs : List Ck} (hs : St w0 (ks []) cs w) {b : Nat} (h : b < w0.heap.size) : b ∉ ks cs.flatten := fun hb => by
  rcases hs.fresh b hb with h1 | h1
  · simp [ks] at h1
  · omega
theorem ks_mem {ls : List Ck} {i : Nat} {c : Ck} (hi : ls[i]? = some c) {b : Nat} (h : b ∈ ks c) : b ∈ ks ls.flatten := by
  simp only [ks, List.mem_map] at h ⊢
  obtain ⟨p, hp, rfl⟩ := h
  exact ⟨p, (mem_sub hi).subset hp, rfl⟩
def one15 (y : LT) : C15 := ⟨([(1, y, 0)], 1), [1], ([], 0), ([], 0), 1, [], 1, 1⟩
theorem put_one (y : LT) : putS (newK 1 []) y = one15 y := by
  have hn : newK 1 [] = ⟨([], 0), [], ([], 0), ([], 0), 1, [], 0, 0⟩ := by
    have : min (max (1 : Int) 0) 1000 = 1 := by decide
    simp only [newK, this]
  have e : findK (newK 1 []) y.key = 0 := by simp [findK, newK]
  have hd : dropK (newK 1 []) y.key = newK 1 [] := by rw [dropK, e]; simp
  have hv : ev1 (newK 1 []) = newK 1 [] := by rw [hn]; simp [ev1]
  rw [putS, if_neg (by rw [hn]; simp), hd, hv, hn]
  simp [addK, mput, mclk, one15]
  decide
theorem find_one (y : LT) : findK (one15 y) y.key = 1 := by
  simp [findK, one15, hasKey, keyOf, mget]
theorem at_one15 (y : LT) : at15 (one15 y) 1 = y := by simp [at15, one15, mget]
def opN (n : Int) : List Value := [.int .i64 n, .slice none 0 0, .int .i64 0, .int .i64 0, .int .i64 0]
theorem build_op (w : World) (n : Int) : (Instr.build 39 #[(0, .int .i64 n)]).run Try.prog w = .ok (.agg (opN n).toArray) w := by kernel_rfl
theorem opN_one (n : Int) : ∀ u ∈ opN n, u.oneCell' = true := by simp [opN, Value.oneCell']

set_option maxRecDepth 40000 in
set_option maxHeartbeats 4000000 in
theorem f3_law (x : LT) (hsm : x.small) : Ctr Try.prog 3 #[evT x] [] (fun w => RdT (· < w.heap.size) x w) (fun v c => v = .bool true ∧ c = []) := by
  intro w0 hp hx
  have hs : St w0 (ks []) [] w0 := St.start w0
  have hmax : 20000000000000 ≤ maxLen := by decide +kernel
  have hkB : ∀ b, b < w0.heap.size → b ∉ ks [] := by simp [ks]
  have hx1 := hx.one
  have n4 := hsm.i
  have n5 := hsm.o
  have hrx : ∀ {cs : List Ck} {w : World}, St w0 (ks []) cs w → RdT (fun _ => True) x w := fun hs => (hx.old hs hkB).mono fun _ _ => trivial
  refine calls_W (n := 81) Try.func3 rfl Try.ntmps3 (by simp) ?_
  refine W_seq ?_
  -- region 0
  refine W_region (by decide +kernel) ?_
  refine sq_e rfl (o_box (cs := trC x) hs rfl ?_); intro b1 w hs
  refine sq_r r_assign rfl ?_
  refine sq_z ?_
  have hs : St w0 (ks []) [[(b1, cb (trC x) 33)]] w := hs
  refine W_seq ?_
  refine W_seq ?_
  -- region 1
  refine W_region (by decide +kernel) ?_
  refine sq_e rfl (o_callN cb7 rfl rfl (Post := fun v _ => v = .bool true) f7_calls hs trivial ?_)
  rintro v w rfl hs
  refine sq_r (r_not rfl) rfl ?_
  refine sq_z ?_
  refine W_cond rfl rfl (fun hc => ?_) (fun hc => ?_)
  · cases hc
  refine W_skip ?_
  refine W_seq ?_
  refine W_mid (M := fun f w => ∃ g b, f = ov [(1, .pointer (some ⟨b1, 0, none⟩)), (27, .bool b)] g ∧ (b = false → 0 < x.ops.length ∧ 0 < x.ins.length) ∧ St w0 (ks []) [[(b1, cb (trC x) 33)]] w) ?_ (fun f w hM => ?_)
  · -- region 3
    obtain ⟨xia, xicap, x12⟩ := hx.i.len
    obtain ⟨xoa, xocap, x13⟩ := hx.o.len
    have X12 := tr12 x; rw [x12] at X12
    have X13 := tr13 x; rw [x13] at X13
    refine W_region (by decide +kernel) ?_
    refine sq_r (r_loadN rfl ty33 (trC_len x) (At.of_block (hs.own (i := 0) rfl) (by simp))) rfl ?_
    refine sq_e rfl (o_callN cb8 rfl rfl (Post := fun r _ => ∃ z, r = .int .i64 z) (f8_calls x (fun _ => True) hsm) hs (hrx hs) ?_)
    rintro r w ⟨z, rfl⟩ hs
    by_cases hz : 500 < z
    · refine sq_r (r_cmp (r := true) rfl rfl (by simp [cmpB, hz])) rfl ?_
      refine sq_r r_move rfl ?_
      refine sq_n rfl ?_
      refine sq_n rfl ?_
      refine sq_n rfl ?_
      refine sq_n rfl ?_
      refine sq_r (r_pick (b := true) rfl) rfl ?_
      refine sq_r r_move rfl ?_
      refine sq_n rfl ?_
      refine sq_n rfl ?_
      refine sq_n rfl ?_
      refine sq_n rfl ?_
      refine sq_r (r_pick (b := true) rfl) rfl ?_
      refine sq_z ?_
      exact ⟨_, true, ov_self ⟨rfl, rfl, trivial⟩, (fun h => by cases h), hs⟩
    refine sq_r (r_cmp (r := false) rfl rfl (by simp [cmpB]; omega)) rfl ?_
    refine sq_r r_move rfl ?_
    refine sq_r (r_field rfl fa33_4) rfl ?_
    refine sq_r (r_load1 rfl ty28 (At.one (hs.own (i := 0) rfl) X13)) rfl ?_
    refine sq_r (r_lenS Try.underlying28 rfl) rfl ?_
    by_cases ho : 0 < x.ops.length
    · refine sq_r (r_cmp (r := false) rfl rfl (by simp [cmpB]; omega)) rfl ?_
      refine sq_r (r_pick (b := false) rfl) rfl ?_
      refine sq_r r_move rfl ?_
      refine sq_r (r_field rfl fa33_3) rfl ?_
      refine sq_r (r_load1 rfl ty27 (At.one (hs.own (i := 0) rfl) X12)) rfl ?_
      refine sq_r (r_lenS Try.underlying27 rfl) rfl ?_
      refine sq_r (r_cmp rfl rfl rfl) rfl ?_
      refine sq_r (r_pick (b := false) rfl) rfl ?_
      refine sq_z ?_
      exact ⟨_, _, ov_self ⟨rfl, rfl, trivial⟩, (fun h => ⟨ho, by have := of_decide_eq_false h; omega⟩), hs⟩
    · refine sq_r (r_cmp (r := true) rfl rfl (by simp [cmpB]; omega)) rfl ?_
      refine sq_r (r_pick (b := false) rfl) rfl ?_
      refine sq_r r_move rfl ?_
      refine sq_n rfl ?_
      refine sq_n rfl ?_
      refine sq_n rfl ?_
      refine sq_n rfl ?_
      refine sq_r (r_pick (b := true) rfl) rfl ?_
      refine sq_z ?_
      exact ⟨_, true, ov_self ⟨rfl, rfl, trivial⟩, (fun h => by cases h), hs⟩
  obtain ⟨g, b, rfl, hb, hs⟩ := hM
  refine W_cond rfl rfl (fun hc => ?_) (fun hc => ?_)
  · refine W_seq ?_
    -- region 4
    refine W_region (by decide +kernel) ?_
    refine sq_r r_assign rfl ?_
    refine sq_z ?_
    refine W_ret ?_
    repeat with_reducible first | refine thenQ_ret ?_ | refine blockQ_ret ?_
    exact ret1 (v := .bool true) rfl (by decide) rfl (fin (c' := []) hs ⟨rfl, rfl⟩ (by simp))
  obtain ⟨hol, hil⟩ := hb hc
  refine W_skip ?_
  refine W_seq ?_
  -- region 5
  refine W_region (by decide +kernel) ?_
  refine sq_e rfl (o_call0 cb9 rfl rfl (f9_calls 1 (.slice none 0 0) [] (fun _ => True) (by simp)) hs RdG.nil ?_)
  rintro v c w ⟨bb, c0, rfl, hcp, hb0⟩ hs
  have hs : St w0 (ks []) [[(b1, cb (trC x) 33)], c0] w := st_perm (ls := [[(b1, cb (trC x) 33)], c]) hs (by simpa using hcp)
  refine sq_r r_assign rfl ?_
  refine sq_z ?_
  refine W_seq ?_
  refine W_seq ?_
  -- region 6
  refine W_region (by decide +kernel) ?_
  refine sq_r r_move rfl ?_
  refine sq_r (r_eqnil Try.underlying36 rfl rfl) rfl ?_
  refine sq_z ?_
  refine W_cond rfl rfl (fun hc => ?_) (fun hc => ?_)
  · cases hc
  refine W_skip ?_
  refine W_seq ?_
  -- region 8
  refine W_region (by decide +kernel) ?_
  refine sq_r (r_loadN rfl ty33 (trC_len x) (At.of_block (hs.own (i := 0) rfl) (by simp))) rfl ?_
  refine sq_e rfl (o_alloc hs ty33 ?_); intro b4 w hs
  refine sq_e rfl (o_store (i := 2) (vs := trC x) hs rfl rfl (by rw [trC_len]; exact ty33) rfl hx1 (by simp [trC_len]) ?_); intro w hs
  refine sq_z ?_
  have hs : St w0 (ks []) [[(b1, cb (trC x) 33)], c0, [(b4, cb (trC x) 33)], []] w := hs.cast (by rw [show spl [Value.int .i64 0, .int .i64 0, .int .i64 0, .int .i64 0, .int .i64 0, .int .i64 0, .int .i64 0, .int .i64 0, .int .i64 0, .int .i64 0, .int .i64 0, .int .i64 0, .slice none 0 0, .slice none 0 0, .slice none 0 0, .slice none 0 0, .slice none 0 0] 0 (trC x) = trC x from spl_all (by simp [trC_len])]; simp)
  refine W_seq ?_
  -- region 9
  obtain ⟨ob, oo, ocap, x13, hato⟩ := RdG.at opC_len (hx.old hs hkB).o hol
  have X13 := tr13 x; rw [x13] at X13
  refine W_region (by decide +kernel) ?_
  refine sq_r (r_field rfl fa33_4) rfl ?_
  refine sq_r (r_load1 rfl ty28 (At.one (hs.own (i := 0) rfl) X13)) rfl ?_
  refine sq_e rfl (o_append (i := 3) (m := x.ops.length) (news := x.ops.flatMap opC) (soff := oo) (sb := ob) (scap := ocap) sl28 ty39 rfl hs rfl rfl rfl (Sl.nil 39 5) (cat_len opC_len x.ops) hato (els_one (fun _ => opC_one) fun p hp => (hx.ao p hp).shape.1) (by omega) (by omega) ?_)
  intro vo co w hvo hs
  refine sq_r (r_field rfl fa33_4) rfl ?_
  refine sq_e rfl (o_store (i := 2) (vs := [vo]) hs rfl (sl_one hvo).2 ty28 rfl (by simpa using (sl_one hvo).1) (by simp [trC_len]) ?_); intro w hs
  refine sq_z ?_
  have hs : St w0 (ks []) [[(b1, cb (trC x) 33)], c0, [(b4, cb (trC { x with vo := vo }) 33)], co, []] w := hs.cast (by rw [show spl (trC x) (0 + 13) [vo] = trC { x with vo := vo } from st13 x vo]; simp)
  refine W_seq ?_
  -- region 10
  obtain ⟨ib, io, icap, x12, hati⟩ := RdG.at iF_len (hx.old hs hkB).i hil
  have X12 := tr12 x; rw [x12] at X12
  refine W_region (by decide +kernel) ?_
  refine sq_r (r_field rfl fa33_3) rfl ?_
  refine sq_r (r_load1 rfl ty27 (At.one (hs.own (i := 0) rfl) X12)) rfl ?_
  refine sq_e rfl (o_append (i := 4) (m := x.ins.length) (news := x.ins.flatMap iF) (soff := io) (sb := ib) (scap := icap) sl27 ty3 rfl hs rfl rfl rfl (Sl.nil 3 1) (cat_len iF_len x.ins) hati (cat_one iF_one _) (by omega) (by omega) ?_)
  intro vi ci w hvi hs
  refine sq_r (r_field rfl fa33_3) rfl ?_
  refine sq_e rfl (o_store (i := 2) (vs := [vi]) hs rfl (sl_one hvi).2 ty27 rfl (by simpa using (sl_one hvi).1) (by simp [trC_len]) ?_); intro w hs
  refine sq_z ?_
  rw [Nat.zero_add, List.nil_append] at hvo hvi
  obtain ⟨X, hX⟩ : ∃ X : LT, X = { x with vo := vo, vi := vi } := ⟨_, rfl⟩
  have hs : St w0 (ks []) [[(b1, cb (trC x) 33)], c0, [(b4, cb (trC X) 33)], co, ci] w := hs.cast (by rw [show spl (trC { x with vo := vo }) (0 + 12) [vi] = trC X from by rw [hX]; exact st12 _ vi]; simp)
  have hXt : X.t = x.t := by rw [hX]; rfl
  have hXsm : X.small := small_t hsm hXt
  have hrX : RdT (· ∉ ks c0) X w := by
    have ho : ∀ b, b < w0.heap.size → b ∉ ks c0 := fun b hb h => st_out0 hs hb (ks_mem (i := 1) rfl h)
    have h1 := (hx.old hs hkB).mono ho
    have h2 := (sl_rd opC_len (by decide) hvo (hs.at (i := 3) rfl)).mono (B' := (· ∉ ks c0)) fun b hb => st_apart hs (i := 1) (j := 3) (by decide) rfl rfl b hb
    have h3 := (sl_rd iF_len (by decide) hvi (hs.at (i := 4) rfl)).mono (B' := (· ∉ ks c0)) fun b hb => st_apart hs (i := 1) (j := 4) (by decide) rfl rfl b hb
    rw [hX]
    exact ⟨h3, h2, h1.l, h1.v, h1.b, h1.ao, h1.al, h1.av⟩
  have hX13 : (trC X)[0 + 13]? = some vo := by rw [hX]; exact tr13 _
  have hX12 : (trC X)[0 + 12]? = some vi := by rw [hX]; exact tr12 _
  have ok0 : Ok (newK 1 []) := Ok.new 1 [] (by simp)
  have hl0 : (newK 1 []).last ≤ 4000000000000000000 := by simp [newK]
  have ep := put_one
  obtain ⟨s0, es0⟩ : ∃ s, s = newK 1 [] := ⟨_, rfl⟩
  rw [← es0] at ok0 hl0 hb0 ep
  refine W_seq ?_
  -- region 11
  refine W_region (by decide +kernel) ?_
  refine sq_r r_move rfl ?_
  refine sq_r (r_loadN rfl ty33 (trC_len X) (At.of_block (hs.own (i := 2) rfl) (by simp))) rfl ?_
  refine sq_e rfl (o_call (i := 1) cb10 rfl rfl (f10_calls bb s0 c0 hb0 ok0 hl0 X hXsm) hs rfl hrX ?_)
  rintro u c1 w ⟨y, hyt, rfl, hb1⟩ hs
  refine sq_z ?_
  have hyx : y.t = x.t := hyt.trans hXt
  have hyk : y.key = x.key := (LT.t_eq hyx).1
  have hfind : findK (putS s0 y) x.key = 1 := by rw [ep, ← hyk]; exact find_one y
  have hat1 : at15 (putS s0 y) 1 = y := by rw [ep]; exact at_one15 y
  have hor : (putS s0 y).order.length ≤ 2000000 := by rw [ep]; simp [one15]
  obtain ⟨s1, es1⟩ : ∃ s, s = putS s0 y := ⟨_, rfl⟩
  rw [← es1] at hb1 hfind hat1 hor
  have hs : St w0 (ks []) [[(b1, cb (trC x) 33)], c1, [(b4, cb (trC X) 33)], co, ci] w := hs
  refine W_seq ?_
  -- region 12
  obtain ⟨p0, hp0⟩ : ∃ p, x.ops[0]? = some p := ⟨_, List.getElem?_eq_getElem hol⟩
  obtain ⟨bo, bocap, orest, hvoe, hcoe, _, _⟩ := hvo.get opC_len hp0 (by decide)
  rw [hvoe] at hX13
  rw [hcoe] at hs
  refine W_region (by decide +kernel) ?_
  refine sq_r (r_field rfl fa33_4) rfl ?_
  refine sq_r (r_load1 rfl ty28 (At.one (hs.own (i := 2) rfl) hX13)) rfl ?_
  refine sq_r (r_buildL (ps := [(0, .int .i64 77)]) rfl (build_op _ 77)) rfl ?_
  refine sq_r (r_index (n := 0) rfl rfl sl28 (by omega) (by omega)) rfl ?_
  refine sq_e rfl (o_store (i := 3) (vs := opN 77) hs rfl rfl ty39 rfl (opN_one 77) ?_ ?_)
  · rw [List.length_append, cat_len opC_len]
    simp only [opN, List.length_cons, List.length_nil, Int.toNat_zero]
    omega
  intro w hs
  refine sq_z ?_
  obtain ⟨co2, hs⟩ : ∃ co2, St w0 (ks []) [[(b1, cb (trC x) 33)], c1, [(b4, cb (trC X) 33)], co2, ci] w := ⟨_, hs⟩
  refine W_seq ?_
  -- region 13
  obtain ⟨q0, hq0⟩ : ∃ p, x.ins[0]? = some p := ⟨_, List.getElem?_eq_getElem hil⟩
  obtain ⟨bi, bicap, irest, hvie, hcie, _, _⟩ := hvi.get iF_len hq0 (by decide)
  rw [hvie] at hX12
  rw [hcie] at hs
  refine W_region (by decide +kernel) ?_
  refine sq_r (r_field rfl fa33_3) rfl ?_
  refine sq_r (r_load1 rfl ty27 (At.one (hs.own (i := 2) rfl) hX12)) rfl ?_
  refine sq_r (r_index (n := 0) rfl rfl sl27 (by omega) (by omega)) rfl ?_
  refine sq_e rfl (o_store (i := 4) (vs := [.int .i64 (-5)]) hs rfl rfl ty3 rfl (by simp [Value.oneCell']) ?_ ?_)
  · rw [List.length_append, cat_len iF_len]
    simp only [List.length_cons, List.length_nil, Int.toNat_zero]
    omega
  intro w hs
  refine sq_z ?_
  have hs : St w0 (ks []) [[(b1, cb (trC x) 33)], c1] w := hs.keep (by simp)
  refine W_seq ?_
  -- region 14
  refine W_region (by decide +kernel) ?_
  refine sq_r r_move rfl ?_
  refine sq_r (r_field rfl fa33_0) rfl ?_
  refine sq_r (r_loadN (vs := ic x.key.toList) rfl ty26 (by simp) (At.of_block (hs.own (i := 0) rfl) (by simpa using trC_key x))) rfl ?_
  refine sq_e rfl (o_call0 cb11 rfl rfl (f11_calls bb s1 c1 hb1 x.key hor) hs (hs.at (i := 1) rfl) ?_)
  rintro u d w h11 hs
  rw [hfind] at h11
  obtain ⟨y1, ci1, cbk1, co1, cl1, cv1, dd1, rfl, hy1t, hown1, rfl⟩ : ∃ y ci cbk co cl cv dd, u = .tuple #[evT y, .int .i64 1, .bool true] ∧ y.t = (at15 s1 1).t ∧ Own y ci co cl cv cbk dd ∧ d = ci ++ (cbk ++ (co ++ (cl ++ (cv ++ dd)))) := by
    rcases h11 with ⟨h, _⟩ | ⟨_, h⟩
    · cases h
    · exact h
  rw [hat1] at hy1t
  have hy1x : y1.t = x.t := hy1t.trans hyx
  have hry1 : ∀ {w : World}, Hp (ci1 ++ (cbk1 ++ (co1 ++ (cl1 ++ (cv1 ++ dd1))))) w → RdT (fun _ => True) y1 w := fun h => (hown1.rd h).mono fun _ _ => trivial
  have hy11 := (hry1 (hs.at (i := 2) rfl)).one
  refine sq_r r_move rfl ?_
  refine sq_r (r_extract rfl rfl) rfl ?_
  refine sq_r (r_extract rfl rfl) rfl ?_
  refine sq_r (r_extract rfl rfl) rfl ?_
  refine sq_e rfl (o_alloc hs ty33 ?_); intro b5 w hs
  refine sq_e rfl (o_store (i := 3) (vs := trC y1) hs rfl rfl (by rw [trC_len]; exact ty33) rfl hy11 (by simp [trC_len]) ?_); intro w hs
  refine sq_r r_assign rfl ?_
  refine sq_r r_assign rfl ?_
  refine sq_z ?_
  have hs : St w0 (ks []) [[(b1, cb (trC x) 33)], c1, ci1 ++ (cbk1 ++ (co1 ++ (cl1 ++ (cv1 ++ dd1)))), [(b5, cb (trC y1) 33)]] w := hs.cast (by rw [show spl [Value.int .i64 0, .int .i64 0, .int .i64 0, .int .i64 0, .int .i64 0, .int .i64 0, .int .i64 0, .int .i64 0, .int .i64 0, .int .i64 0, .int .i64 0, .int .i64 0, .slice none 0 0, .slice none 0 0, .slice none 0 0, .slice none 0 0, .slice none 0 0] 0 (trC y1) = trC y1 from spl_all (by simp [trC_len])]; simp)
  refine W_seq ?_
  refine W_seq ?_
  -- region 15
  refine W_region (by decide +kernel) ?_
  refine sq_r r_move rfl ?_
  refine sq_r (r_not rfl) rfl ?_
  refine sq_r r_move rfl ?_
  refine sq_r (r_loadN rfl ty33 (trC_len y1) (At.of_block (hs.own (i := 3) rfl) (by simp))) rfl ?_
  refine sq_r (r_loadN rfl ty33 (trC_len x) (At.of_block (hs.own (i := 0) rfl) (by simp))) rfl ?_
  refine sq_e rfl (o_callN cb12 rfl rfl (Post := fun r _ => r = .bool true) (f12_calls y1 x (fun _ => True) hy1x.symm (small_t hsm hy1x)) hs ⟨hry1 (hs.at (i := 2) rfl), hrx hs⟩ ?_)
  rintro u w rfl hs
  refine sq_r (r_not rfl) rfl ?_
  refine sq_r (r_pick (b := false) rfl) rfl ?_
  refine sq_z ?_
  refine W_cond rfl rfl (fun hc => ?_) (fun hc => ?_)
  · cases hc
  refine W_skip ?_
  refine W_seq ?_
  -- region 17
  have hl1 : y1.ops.length = x.ops.length := map_len (LT.t_eq hy1x).2.2.2.2.1.symm
  obtain ⟨p1, hp1⟩ : ∃ p, y1.ops[0]? = some p := ⟨_, List.getElem?_eq_getElem (by omega)⟩
  obtain ⟨bo1, bocap1, orest1, hvoe1, hcoe1, _, _⟩ := hown1.o.get opC_len hp1 (by decide)
  have Y13 := tr13 y1; rw [hvoe1] at Y13
  have hs : St w0 (ks []) [[(b1, cb (trC x) 33)], c1, ci1, cbk1, [(bo1, cb (y1.ops.flatMap opC ++ orest1) 39)], cl1, cv1, dd1, [(b5, cb (trC y1) 33)]] w := hs.cast (by rw [← hcoe1]; simp)
  refine W_region (by decide +kernel) ?_
  refine sq_r (r_field rfl fa33_4) rfl ?_
  refine sq_r (r_load1 rfl ty28 (At.one (hs.own (i := 8) rfl) Y13)) rfl ?_
  refine sq_r (r_buildL (ps := [(0, .int .i64 78)]) rfl (build_op _ 78)) rfl ?_
  refine sq_r (r_index (n := 0) rfl rfl sl28 (by omega) (by omega)) rfl ?_
  refine sq_e rfl (o_store (i := 4) (vs := opN 78) hs rfl rfl ty39 rfl (opN_one 78) ?_ ?_)
  · rw [List.length_append, cat_len opC_len]
    simp only [opN, List.length_cons, List.length_nil, Int.toNat_zero]
    omega
  intro w hs
  refine sq_z ?_
  have hs : St w0 (ks []) [[(b1, cb (trC x) 33)], c1] w := hs.keep (by simp)
  refine W_seq ?_
  -- region 18
  refine W_region (by decide +kernel) ?_
  refine sq_r r_move rfl ?_
  refine sq_r (r_field rfl fa33_0) rfl ?_
  refine sq_r (r_loadN (vs := ic x.key.toList) rfl ty26 (by simp) (At.of_block (hs.own (i := 0) rfl) (by simpa using trC_key x))) rfl ?_
  refine sq_e rfl (o_call0 cb11 rfl rfl (f11_calls bb s1 c1 hb1 x.key hor) hs (hs.at (i := 1) rfl) ?_)
  rintro u d w h11 hs
  rw [hfind] at h11
  obtain ⟨y2, ci2, cbk2, co2, cl2, cv2, dd2, rfl, hy2t, hown2, rfl⟩ : ∃ y ci cbk co cl cv dd, u = .tuple #[evT y, .int .i64 1, .bool true] ∧ y.t = (at15 s1 1).t ∧ Own y ci co cl cv cbk dd ∧ d = ci ++ (cbk ++ (co ++ (cl ++ (cv ++ dd)))) := by
    rcases h11 with ⟨h, _⟩ | ⟨_, h⟩
    · cases h
    · exact h
  rw [hat1] at hy2t
  have hy2x : y2.t = x.t := hy2t.trans hyx
  have hry2 : ∀ {w : World}, Hp (ci2 ++ (cbk2 ++ (co2 ++ (cl2 ++ (cv2 ++ dd2))))) w → RdT (fun _ => True) y2 w := fun h => (hown2.rd h).mono fun _ _ => trivial
  have hy21 := (hry2 (hs.at (i := 2) rfl)).one
  refine sq_r r_move rfl ?_
  refine sq_r (r_extract rfl rfl) rfl ?_
  refine sq_r (r_extract rfl rfl) rfl ?_
  refine sq_r (r_extract rfl rfl) rfl ?_
  refine sq_e rfl (o_alloc hs ty33 ?_); intro b8 w hs
  refine sq_e rfl (o_store (i := 3) (vs := trC y2) hs rfl rfl (by rw [trC_len]; exact ty33) rfl hy21 (by simp [trC_len]) ?_); intro w hs
  refine sq_r r_assign rfl ?_
  refine sq_r r_assign rfl ?_
  refine sq_z ?_
  have hs : St w0 (ks []) [[(b1, cb (trC x) 33)], c1, ci2 ++ (cbk2 ++ (co2 ++ (cl2 ++ (cv2 ++ dd2)))), [(b8, cb (trC y2) 33)]] w := hs.cast (by rw [show spl [Value.int .i64 0, .int .i64 0, .int .i64 0, .int .i64 0, .int .i64 0, .int .i64 0, .int .i64 0, .int .i64 0, .int .i64 0, .int .i64 0, .int .i64 0, .int .i64 0, .slice none 0 0, .slice none 0 0, .slice none 0 0, .slice none 0 0, .slice none 0 0] 0 (trC y2) = trC y2 from spl_all (by simp [trC_len])]; simp)
  refine W_seq ?_
  -- region 19
  refine W_region (by decide +kernel) ?_
  refine sq_r (r_loadN rfl ty33 (trC_len y2) (At.of_block (hs.own (i := 3) rfl) (by simp))) rfl ?_
  refine sq_r (r_loadN rfl ty33 (trC_len x) (At.of_block (hs.own (i := 0) rfl) (by simp))) rfl ?_
  refine sq_e rfl (o_callN cb12 rfl rfl (Post := fun r _ => r = .bool true) (f12_calls y2 x (fun _ => True) hy2x.symm (small_t hsm hy2x)) hs ⟨hry2 (hs.at (i := 2) rfl), hrx hs⟩ ?_)
  rintro u w rfl hs
  refine sq_r r_assign rfl ?_
  refine sq_z ?_
  refine W_ret ?_
  exact ret1 (v := .bool true) rfl (by decide) rfl (fin (c' := []) hs ⟨rfl, rfl⟩ (by simp))

end Go.Proofs.Ytddhdoncjfgfnaa
