/-
  Layer 15: a cache that nobody made: what its functions answer, and the law CacheNone. No condition.
-/
import Derived.Test.YtddhdoncjfgfnaaAwake
namespace Go.Proofs.Ytddhdoncjfgfnaa
open Go.Eng

/-- No cache: nil, or one with nothing in it. -/
def NoC (p : Value) (w : World) : Prop := p = .pointer none ∨ ∃ bb, p = .pointer (some ⟨bb, 0, none⟩) ∧ w.cell? ⟨bb, 0 + 0, none⟩ = some (.map none)
theorem NoC.keep {p : Value} {w0 w : World} {cs : List Ck} (h : NoC p w0) (hs : St w0 (ks []) cs w) : NoC p w := by
  rcases h with h | ⟨bb, h, hc⟩
  · exact .inl h
  · exact .inr ⟨bb, h, keepC hc hs (by simp [ks])⟩
theorem spl_z0 (x : LT) : spl [Value.int .i64 0, .int .i64 0, .int .i64 0, .int .i64 0, .int .i64 0, .int .i64 0, .int .i64 0, .int .i64 0, .int .i64 0, .int .i64 0, .int .i64 0, .int .i64 0, .slice none 0 0, .slice none 0 0, .slice none 0 0, .slice none 0 0, .slice none 0 0] 0 (trC x) = trC x := spl_all (by simp [trC_len])
theorem f23_no (p : Value) : Ctr Try.prog 23 #[p] [] (NoC p) (fun v c => v = .bool false ∧ c = []) := by
  intro w0 hp hro
  rcases hro with rfl | ⟨bb, rfl, hc⟩
  · exact f23_nil w0 hp trivial
  · exact f23_calls bb none w0 hp hc
set_option maxRecDepth 20000 in
theorem f35_no (p : Value) (id : Int) : Ctr Try.prog 35 #[p, .int .i64 id] [] (NoC p) (fun r c => r = .bool false ∧ c = []) := by
  intro w0 hp hro
  have hs : St w0 (ks []) [] w0 := St.start w0
  refine calls_W (n := 20) Try.func35 rfl Try.ntmps35 (by simp) ?_
  refine W_seq ?_
  refine W_region (by decide +kernel) ?_
  refine sq_r r_assign rfl ?_
  refine sq_z ?_
  refine W_seq ?_
  refine W_seq ?_
  refine W_region (by decide +kernel) ?_
  refine sq_r r_move rfl ?_
  refine sq_e rfl (o_callN cb23 rfl rfl (Post := fun v _ => v = .bool false) (f23_no p) hs (hro.keep hs) ?_)
  rintro u w rfl hs
  refine sq_r (r_not rfl) rfl ?_
  refine sq_z ?_
  refine W_cond rfl rfl (fun hc => ?_) (fun hc => ?_)
  rotate_left
  · cases hc
  refine W_seq ?_
  refine W_region (by decide +kernel) ?_
  refine sq_r r_assign rfl ?_
  refine sq_z ?_
  refine W_ret ?_
  repeat with_reducible first | refine thenQ_ret ?_ | refine blockQ_ret ?_
  exact ret1 (v := .bool false) rfl (by decide) rfl (fin (c' := []) hs ⟨rfl, rfl⟩ (by simp))
set_option maxRecDepth 20000 in
theorem f16_no (p : Value) : Ctr Try.prog 16 #[p] [] (NoC p) (fun r c => r = .int .i64 0 ∧ c = []) := by
  intro w0 hp hro
  have hs : St w0 (ks []) [] w0 := St.start w0
  refine calls_W (n := 10) Try.func16 rfl Try.ntmps16 (by simp) ?_
  refine W_seq ?_
  refine W_region (by decide +kernel) ?_
  refine sq_r r_assign rfl ?_
  refine sq_z ?_
  refine W_seq ?_
  refine W_seq ?_
  refine W_region (by decide +kernel) ?_
  refine sq_r r_move rfl ?_
  refine sq_e rfl (o_callN cb23 rfl rfl (Post := fun v _ => v = .bool false) (f23_no p) hs (hro.keep hs) ?_)
  rintro u w rfl hs
  refine sq_r (r_not rfl) rfl ?_
  refine sq_z ?_
  refine W_cond rfl rfl (fun hc => ?_) (fun hc => ?_)
  rotate_left
  · cases hc
  refine W_seq ?_
  refine W_region (by decide +kernel) ?_
  refine sq_r r_assign rfl ?_
  refine sq_z ?_
  refine W_ret ?_
  repeat with_reducible first | refine thenQ_ret ?_ | refine blockQ_ret ?_
  exact ret1 (v := .int .i64 0) rfl (by decide) rfl (fin (c' := []) hs ⟨rfl, rfl⟩ (by simp))
set_option maxRecDepth 20000 in
theorem f13_no (p : Value) : Ctr Try.prog 13 #[p] [] (NoC p) (fun r c => r = .slice none 0 0 ∧ c = []) := by
  intro w0 hp hro
  have hs : St w0 (ks []) [] w0 := St.start w0
  refine calls_W (n := 30) Try.func13 rfl Try.ntmps13 (by simp) ?_
  refine W_seq ?_
  refine W_region (by decide +kernel) ?_
  refine sq_r r_assign rfl ?_
  refine sq_z ?_
  refine W_seq ?_
  refine W_seq ?_
  refine W_region (by decide +kernel) ?_
  refine sq_r r_move rfl ?_
  refine sq_e rfl (o_callN cb23 rfl rfl (Post := fun v _ => v = .bool false) (f23_no p) hs (hro.keep hs) ?_)
  rintro u w rfl hs
  refine sq_r (r_not rfl) rfl ?_
  refine sq_z ?_
  refine W_cond rfl rfl (fun hc => ?_) (fun hc => ?_)
  rotate_left
  · cases hc
  refine W_seq ?_
  refine W_region (by decide +kernel) ?_
  refine sq_r r_assign rfl ?_
  refine sq_z ?_
  refine W_ret ?_
  repeat with_reducible first | refine thenQ_ret ?_ | refine blockQ_ret ?_
  exact ret1 (v := .slice none 0 0) rfl (by decide) rfl (fin (c' := []) hs ⟨rfl, rfl⟩ (by simp))
set_option maxRecDepth 20000 in
theorem f17_no (p : Value) (id op : Int) : Ctr Try.prog 17 #[p, .int .i64 id, .int .i64 op] [] (NoC p) (fun r c => r = .tuple #[.int .i64 0, .bool false] ∧ c = []) := by
  intro w0 hp hro
  have hs : St w0 (ks []) [] w0 := St.start w0
  refine calls_W (n := 26) Try.func17 rfl Try.ntmps17 (by simp) ?_
  refine W_seq ?_
  refine W_region (by decide +kernel) ?_
  refine sq_r r_assign rfl ?_
  refine sq_r r_assign rfl ?_
  refine sq_z ?_
  refine W_seq ?_
  refine W_seq ?_
  refine W_region (by decide +kernel) ?_
  refine sq_r r_move rfl ?_
  refine sq_e rfl (o_callN cb23 rfl rfl (Post := fun v _ => v = .bool false) (f23_no p) hs (hro.keep hs) ?_)
  rintro u w rfl hs
  refine sq_r (r_not rfl) rfl ?_
  refine sq_z ?_
  refine W_cond rfl rfl (fun hc => ?_) (fun hc => ?_)
  rotate_left
  · cases hc
  refine W_seq ?_
  refine W_region (by decide +kernel) ?_
  refine sq_r r_assign rfl ?_
  refine sq_r r_assign rfl ?_
  refine sq_z ?_
  refine W_ret ?_
  repeat with_reducible first | refine thenQ_ret ?_ | refine blockQ_ret ?_
  exact ret2 (v := .int .i64 0) (v2 := .bool false) rfl (by decide) (by decide) rfl rfl (fin (c' := []) hs ⟨rfl, rfl⟩ (by simp))
set_option maxRecDepth 20000 in
theorem f18_no (p : Value) (k : Ky) : Ctr Try.prog 18 #[p, encV k] [] (NoC p) (fun r c => r = .bool false ∧ c = []) := by
  intro w0 hp hro
  have hs : St w0 (ks []) [] w0 := St.start w0
  refine calls_W (n := 19) Try.func18 rfl Try.ntmps18 (by simp) ?_
  refine W_seq ?_
  refine W_region (by decide +kernel) ?_
  refine sq_e rfl (o_box (cs := ic k.toList) hs rfl ?_); intro b3 w hs
  refine sq_r r_assign rfl ?_
  refine sq_z ?_
  refine W_seq ?_
  refine W_seq ?_
  refine W_region (by decide +kernel) ?_
  refine sq_r r_move rfl ?_
  refine sq_e rfl (o_callN cb23 rfl rfl (Post := fun v _ => v = .bool false) (f23_no p) hs (hro.keep hs) ?_)
  rintro u w rfl hs
  refine sq_r (r_not rfl) rfl ?_
  refine sq_z ?_
  refine W_cond rfl rfl (fun hc => ?_) (fun hc => ?_)
  rotate_left
  · cases hc
  refine W_seq ?_
  refine W_region (by decide +kernel) ?_
  refine sq_r r_assign rfl ?_
  refine sq_z ?_
  refine W_ret ?_
  repeat with_reducible first | refine thenQ_ret ?_ | refine blockQ_ret ?_
  exact ret1 (v := .bool false) rfl (by decide) rfl (fin (c' := []) hs ⟨rfl, rfl⟩ (by simp))
set_option maxRecDepth 20000 in
theorem f19_no (p : Value) (id op : Int) : Ctr Try.prog 19 #[p, .int .i64 id, .int .i64 op] [] (NoC p) (fun r c => r = .int .i64 0 ∧ c = []) := by
  intro w0 hp hro
  have hs : St w0 (ks []) [] w0 := St.start w0
  refine calls_W (n := 30) Try.func19 rfl Try.ntmps19 (by simp) ?_
  refine W_seq ?_
  refine W_region (by decide +kernel) ?_
  refine sq_r r_assign rfl ?_
  refine sq_z ?_
  refine W_seq ?_
  refine W_seq ?_
  refine W_region (by decide +kernel) ?_
  refine sq_r r_move rfl ?_
  refine sq_r r_move rfl ?_
  refine sq_e rfl (o_callN cb35 rfl rfl (Post := fun v _ => v = .bool false) (f35_no p id) hs (hro.keep hs) ?_)
  rintro u w rfl hs
  refine sq_r (r_not rfl) rfl ?_
  refine sq_z ?_
  refine W_cond rfl rfl (fun hc => ?_) (fun hc => ?_)
  rotate_left
  · cases hc
  refine W_seq ?_
  refine W_region (by decide +kernel) ?_
  refine sq_r r_assign rfl ?_
  refine sq_z ?_
  refine W_ret ?_
  repeat with_reducible first | refine thenQ_ret ?_ | refine blockQ_ret ?_
  exact ret1 (v := .int .i64 0) rfl (by decide) rfl (fin (c' := []) hs ⟨rfl, rfl⟩ (by simp))
set_option maxRecDepth 20000 in
theorem f10_no (p : Value) (x : LT) : Ctr Try.prog 10 #[p, evT x] [] (NoC p) (fun r c => r = .int .i64 (-1) ∧ c = []) := by
  intro w0 hp hro
  have hs : St w0 (ks []) [] w0 := St.start w0
  refine calls_W (n := 97) Try.func10 rfl Try.ntmps10 (by simp) ?_
  refine W_seq ?_
  refine W_region (by decide +kernel) ?_
  refine sq_e rfl (o_box (cs := trC x) hs rfl ?_); intro b3 w hs
  refine sq_r r_assign rfl ?_
  refine sq_z ?_
  refine W_seq ?_
  refine W_seq ?_
  refine W_region (by decide +kernel) ?_
  refine sq_r r_move rfl ?_
  refine sq_e rfl (o_callN cb23 rfl rfl (Post := fun v _ => v = .bool false) (f23_no p) hs (hro.keep hs) ?_)
  rintro u w rfl hs
  refine sq_r (r_not rfl) rfl ?_
  refine sq_r r_move rfl ?_
  refine sq_n rfl ?_
  refine sq_n rfl ?_
  refine sq_n rfl ?_
  refine sq_n rfl ?_
  refine sq_n rfl ?_
  refine sq_r (r_pick (b := true) rfl) rfl ?_
  refine sq_z ?_
  refine W_cond rfl rfl (fun hc => ?_) (fun hc => ?_)
  rotate_left
  · cases hc
  refine W_seq ?_
  refine W_region (by decide +kernel) ?_
  refine sq_r r_assign rfl ?_
  refine sq_z ?_
  refine W_ret ?_
  repeat with_reducible first | refine thenQ_ret ?_ | refine blockQ_ret ?_
  exact ret1 (v := .int .i64 (-1)) rfl (by decide) rfl (fin (c' := []) hs ⟨rfl, rfl⟩ (by simp))
set_option maxRecDepth 20000 in
theorem f11_no (p : Value) (k : Ky) : Ctr Try.prog 11 #[p, encV k] [] (NoC p) (fun r c => r = .tuple #[evT zLT, .int .i64 0, .bool false] ∧ c = []) := by
  intro w0 hp hro
  have hs : St w0 (ks []) [] w0 := St.start w0
  refine calls_W (n := 26) Try.func11 rfl Try.ntmps11 (by simp) ?_
  refine W_seq ?_
  refine W_region (by decide +kernel) ?_
  refine sq_e rfl (o_box (cs := ic k.toList) hs rfl ?_); intro b3 w hs
  refine sq_e rfl (o_alloc hs ty33 ?_); intro b4 w hs
  refine sq_r r_assign rfl ?_
  refine sq_r r_assign rfl ?_
  refine sq_z ?_
  refine W_seq ?_
  refine W_seq ?_
  refine W_region (by decide +kernel) ?_
  refine sq_r r_move rfl ?_
  refine sq_e rfl (o_callN cb23 rfl rfl (Post := fun v _ => v = .bool false) (f23_no p) hs (hro.keep hs) ?_)
  rintro u w rfl hs
  refine sq_r (r_not rfl) rfl ?_
  refine sq_z ?_
  refine W_cond rfl rfl (fun hc => ?_) (fun hc => ?_)
  rotate_left
  · cases hc
  refine W_seq ?_
  refine W_region (by decide +kernel) ?_
  refine sq_r (r_build (v := evT zLT) (by kernel_rfl)) rfl ?_
  refine sq_e rfl (o_store (i := 1) (vs := trC zLT) hs rfl rfl ty33 rfl (RdT.z (B := fun _ => True) (w := w)).one (by simp [trC_len]) ?_); intro w hs
  refine sq_r r_assign rfl ?_
  refine sq_r r_assign rfl ?_
  refine sq_z ?_
  refine W_ret ?_
  repeat with_reducible first | refine thenQ_ret ?_ | refine blockQ_ret ?_
  have hs : St w0 (ks []) [[(b3, cb (ic k.toList) 26)], [(b4, cb (trC zLT) 33)]] w := hs
  exact retC2 (T := 33) (v := .int .i64 0) (v2 := .bool false) rfl (by decide) (by decide) (by decide) rfl (hs.own (i := 1) rfl) ty33 rfl rfl (fin (c' := []) hs ⟨rfl, rfl⟩ (by simp))
set_option maxRecDepth 20000 in
theorem f20_no (p : Value) (id op to : Int) : Ctr Try.prog 20 #[p, .int .i64 id, .int .i64 op, .int .i64 to] [] (NoC p) (fun r c => r = .int .i64 3 ∧ c = []) := by
  intro w0 hp hro
  have hs : St w0 (ks []) [] w0 := St.start w0
  refine calls_W (n := 31) Try.func20 rfl Try.ntmps20 (by simp) ?_
  refine W_seq ?_
  refine W_region (by decide +kernel) ?_
  refine sq_r r_assign rfl ?_
  refine sq_z ?_
  refine W_seq ?_
  refine W_block ?_
  refine W_seq ?_
  refine W_region (by decide +kernel) ?_
  refine sq_r r_move rfl ?_
  refine sq_r r_move rfl ?_
  refine sq_e rfl (o_callN cb35 rfl rfl (Post := fun v _ => v = .bool false) (f35_no p id) hs (hro.keep hs) ?_)
  rintro u w rfl hs
  refine sq_r (r_not rfl) rfl ?_
  refine sq_r r_move rfl ?_
  refine sq_n rfl ?_
  refine sq_n rfl ?_
  refine sq_n rfl ?_
  refine sq_n rfl ?_
  refine sq_r (r_pick (b := true) rfl) rfl ?_
  refine sq_r r_assign rfl ?_
  refine sq_z ?_
  refine W_cond rfl rfl (fun hc => ?_) (fun hc => ?_)
  rotate_left
  · cases hc
  refine W_seq ?_
  refine W_region (by decide +kernel) ?_
  refine sq_r r_assign rfl ?_
  refine sq_z ?_
  refine W_ret ?_
  repeat with_reducible first | refine thenQ_ret ?_ | refine blockQ_ret ?_
  exact ret1 (v := .int .i64 3) rfl (by decide) rfl (fin (c' := []) hs ⟨rfl, rfl⟩ (by simp))
theorem build_none (w : World) : (Instr.build 65 #[]).run Try.prog w = .ok (.agg #[.map none, .slice none 0 0, .map none, .map none, .int .i64 0, .slice none 0 0, .int .i64 0, .int .i64 0]) w := by kernel_rfl
set_option maxRecDepth 40000 in
set_option maxHeartbeats 4000000 in
theorem f6_law (x : LT) (id op : Int) : Ctr Try.prog 6 #[evT x, .int .i64 id, .int .i64 op] [] (fun _ => True) (fun v c => v = .bool true ∧ c = []) := by
  intro w0 hp hro
  have hs : St w0 (ks []) [] w0 := St.start w0
  refine calls_W (n := 84) Try.func6 rfl Try.ntmps6 (by simp) ?_
  refine W_seq ?_
  -- region 0
  refine W_region (by decide +kernel) ?_
  refine sq_e rfl (o_box (cs := trC x) hs rfl ?_); intro b3 w hs
  refine sq_r r_assign rfl ?_
  refine sq_z ?_
  refine W_seq ?_
  refine W_seq ?_
  -- region 1
  refine W_region (by decide +kernel) ?_
  refine sq_e rfl (o_callN cb7 rfl rfl (Post := fun v _ => v = .bool true) f7_calls hs trivial ?_)
  rintro v w rfl hs
  refine sq_r (r_not rfl) rfl ?_
  refine sq_z ?_
  refine W_cond rfl rfl (fun hc => ?_) (fun hc => ?_)
  · cases hc
  refine W_skip ?_
  refine W_seq ?_
  -- region 3
  refine W_region (by decide +kernel) ?_
  refine sq_r r_assign rfl ?_
  refine sq_z ?_
  refine W_seq ?_
  refine W_seq ?_
  -- region 4
  refine W_region (by decide +kernel) ?_
  refine sq_r r_move rfl ?_
  refine sq_r (r_buildL (ps := []) rfl (build_none _)) rfl ?_
  refine sq_e rfl (o_box (cs := [Value.map none, .slice none 0 0, .map none, .map none, .int .i64 0, .slice none 0 0, .int .i64 0, .int .i64 0]) hs rfl ?_); intro bb w hs
  refine sq_e rfl (o_buildN [.pointer none, .pointer (some ⟨bb, 0, none⟩)] [[.pointer none], [.pointer (some ⟨bb, 0, none⟩)]] sl66 ty36 hs rfl rfl rfl (by simp) (by simp) ?_); intro b20 w hs
  refine sq_r (r_lenS Try.underlying66 rfl) rfl ?_
  refine sq_r r_move rfl ?_
  refine sq_z ?_
  have hs : St w0 (ks []) [[(b3, cb (trC x) 33)], [(bb, cb [Value.map none, .slice none 0 0, .map none, .map none, .int .i64 0, .slice none 0 0, .int .i64 0, .int .i64 0] 65)], [(b20, cb [.pointer none, .pointer (some ⟨bb, 0, none⟩)] 36)]] w := hs
  refine W_block ?_
  -- LOOP
  refine W_loop (fun (i : Nat) f w => ∃ g, f = ov [(1, .int .i64 id), (2, .int .i64 op), (3, .pointer (some ⟨b3, 0, none⟩)), (20, .slice (some ⟨b20, 0, none⟩) 2 2), (21, .int .i64 2), (22, .int .i64 i)] g ∧ i ≤ 2 ∧ St w0 (ks []) [[(b3, cb (trC x) 33)], [(bb, cb [Value.map none, .slice none 0 0, .map none, .map none, .int .i64 0, .slice none 0 0, .int .i64 0, .int .i64 0] 65)], [(b20, cb [.pointer none, .pointer (some ⟨bb, 0, none⟩)] 36)]] w) (fun i => 2 - i) 0 ?_ ?_
  · exact ⟨_, ov_self ⟨rfl, rfl, rfl, rfl, rfl, rfl, trivial⟩, Nat.zero_le _, hs⟩
  clear hs
  rintro i f w ⟨g, rfl, hi, hs⟩
  refine W_seq ?_
  -- region 5
  refine W_region (by decide +kernel) ?_
  refine sq_r (r_cmp rfl rfl rfl) rfl ?_
  refine sq_z ?_
  refine W_seq ?_
  refine W_cond rfl rfl (fun hd => ?_) (fun hd => ?_)
  · have hlt : i < 2 := by have := of_decide_eq_true hd; omega
    obtain ⟨p, hpi, hno⟩ : ∃ p, [Value.pointer none, .pointer (some ⟨bb, 0, none⟩)][i]? = some p ∧ ∀ {w : World}, w.heap[bb]? = some (cb [Value.map none, .slice none 0 0, .map none, .map none, .int .i64 0, .slice none 0 0, .int .i64 0, .int .i64 0] 65) → NoC p w := by
      match i, hlt with
      | 0, _ => exact ⟨_, rfl, fun _ => .inl rfl⟩
      | 1, _ => exact ⟨_, rfl, fun h => .inr ⟨bb, rfl, At.one h rfl⟩⟩
    have hpo : p.oneCell' = true := by
      match i, hlt with
      | 0, _ => cases hpi; rfl
      | 1, _ => cases hpi; rfl
    refine W_skip ?_
    refine W_seq ?_
    refine W_block ?_
    refine W_seq ?_
    -- region 6
    refine W_region (by decide +kernel) ?_
    refine sq_r (r_index rfl rfl sl66 (by omega) (by omega)) rfl ?_
    refine sq_r (r_load1 rfl ty36 (At.one (v := p) (hs.own (i := 2) rfl) (by simpa using hpi))) rfl ?_
    refine sq_r r_assign rfl ?_
    refine sq_z ?_
    refine W_seq ?_
    -- region 7
    refine W_region (by decide +kernel) ?_
    refine sq_r r_move rfl ?_
    refine sq_r (r_field rfl fa33_0) rfl ?_
    refine sq_r (r_loadN (vs := ic x.key.toList) rfl ty26 (by simp) (At.of_block (hs.own (i := 0) rfl) (by simpa using trC_key x))) rfl ?_
    refine sq_e rfl (o_callN cb11 rfl rfl (Post := fun r _ => r = .tuple #[evT zLT, .int .i64 0, .bool false]) (f11_no p x.key) hs (hno (hs.own (i := 1) rfl)) ?_)
    rintro u w rfl hs
    refine sq_r r_move rfl ?_
    refine sq_r (r_extract rfl rfl) rfl ?_
    refine sq_r (r_extract rfl rfl) rfl ?_
    refine sq_r (r_extract rfl rfl) rfl ?_
    refine sq_e rfl (o_alloc hs ty33 ?_); intro b10 w hs
    refine sq_e rfl (o_store (i := 3) (vs := trC zLT) hs rfl rfl ty33 rfl (RdT.z (B := fun _ => True) (w := w)).one (by simp [trC_len]) ?_); intro w hs
    refine sq_r r_assign rfl ?_
    refine sq_r r_assign rfl ?_
    refine sq_z ?_
    have hs : St w0 (ks []) [[(b3, cb (trC x) 33)], [(bb, cb [Value.map none, .slice none 0 0, .map none, .map none, .int .i64 0, .slice none 0 0, .int .i64 0, .int .i64 0] 65)], [(b20, cb [.pointer none, .pointer (some ⟨bb, 0, none⟩)] 36)]] w := hs.keep (by simp)
    refine W_seq ?_
    -- region 8
    refine W_region (by decide +kernel) ?_
    refine sq_r r_move rfl ?_
    refine sq_r r_move rfl ?_
    refine sq_r r_move rfl ?_
    refine sq_e rfl (o_callN cb17 rfl rfl (Post := fun r _ => r = .tuple #[.int .i64 0, .bool false]) (f17_no p id op) hs (hno (hs.own (i := 1) rfl)) ?_)
    rintro u w rfl hs
    refine sq_r r_move rfl ?_
    refine sq_r (r_extract rfl rfl) rfl ?_
    refine sq_r (r_extract rfl rfl) rfl ?_
    refine sq_r r_assign rfl ?_
    refine sq_r r_assign rfl ?_
    refine sq_z ?_
    refine W_seq ?_
    -- region 9
    refine W_region (by decide +kernel) ?_
    refine sq_r r_move rfl ?_
    refine sq_r (r_loadN rfl ty33 (trC_len x) (At.of_block (hs.own (i := 0) rfl) (by simp))) rfl ?_
    refine sq_e rfl (o_callN cb10 rfl rfl (Post := fun r _ => r = .int .i64 (-1)) (f10_no p x) hs (hno (hs.own (i := 1) rfl)) ?_)
    rintro u w rfl hs
    refine sq_r (r_cmp (r := false) rfl rfl rfl) rfl ?_
    refine sq_r r_move rfl ?_
    refine sq_r r_move rfl ?_
    refine sq_r (r_pick (b := false) rfl) rfl ?_
    refine sq_r r_move rfl ?_
    refine sq_r r_move rfl ?_
    refine sq_r (r_pick (b := false) rfl) rfl ?_
    refine sq_r r_move rfl ?_
    refine sq_r r_move rfl ?_
    refine sq_r (r_field rfl fa33_0) rfl ?_
    refine sq_r (r_loadN (vs := ic x.key.toList) rfl ty26 (by simp) (At.of_block (hs.own (i := 0) rfl) (by simpa using trC_key x))) rfl ?_
    refine sq_e rfl (o_callN cb18 rfl rfl (Post := fun r _ => r = .bool false) (f18_no p x.key) hs (hno (hs.own (i := 1) rfl)) ?_)
    rintro u w rfl hs
    refine sq_r (r_pick (b := false) rfl) rfl ?_
    refine sq_r r_move rfl ?_
    refine sq_r r_move rfl ?_
    refine sq_r r_move rfl ?_
    refine sq_r r_move rfl ?_
    refine sq_e rfl (o_callN cb19 rfl rfl (Post := fun r _ => r = .int .i64 0) (f19_no p id op) hs (hno (hs.own (i := 1) rfl)) ?_)
    rintro u w rfl hs
    refine sq_r (r_cmp (r := false) rfl rfl rfl) rfl ?_
    refine sq_r (r_pick (b := false) rfl) rfl ?_
    refine sq_r r_move rfl ?_
    refine sq_r r_move rfl ?_
    refine sq_e rfl (o_callN cb13 rfl rfl (Post := fun r _ => r = .slice none 0 0) (f13_no p) hs (hno (hs.own (i := 1) rfl)) ?_)
    rintro u w rfl hs
    refine sq_r (r_lenS Try.underlying45 rfl) rfl ?_
    refine sq_r (r_cmp (r := false) rfl rfl rfl) rfl ?_
    refine sq_r (r_pick (b := false) rfl) rfl ?_
    refine sq_r r_move rfl ?_
    refine sq_r r_move rfl ?_
    refine sq_e rfl (o_callN cb16 rfl rfl (Post := fun r _ => r = .int .i64 0) (f16_no p) hs (hno (hs.own (i := 1) rfl)) ?_)
    rintro u w rfl hs
    refine sq_r (r_cmp (r := false) rfl rfl rfl) rfl ?_
    refine sq_r (r_pick (b := false) rfl) rfl ?_
    refine sq_r r_move rfl ?_
    refine sq_r r_move rfl ?_
    refine sq_r r_move rfl ?_
    refine sq_r r_move rfl ?_
    refine sq_r r_move rfl ?_
    refine sq_e rfl (o_callN cb20 rfl rfl (Post := fun r _ => r = .int .i64 3) (f20_no p id op id) hs (hno (hs.own (i := 1) rfl)) ?_)
    rintro u w rfl hs
    refine sq_r (r_cmp (r := false) rfl rfl rfl) rfl ?_
    refine sq_r (r_pick (b := false) rfl) rfl ?_
    refine sq_z ?_
    refine W_cond rfl rfl (fun hc => ?_) (fun hc => ?_)
    · cases hc
    refine W_skip ?_
    -- region 11
    refine W_region (by decide +kernel) ?_
    refine sq_r (r_add rfl rfl (wrap_small (by omega) (by omega))) rfl ?_
    refine sq_r r_move rfl ?_
    refine sq_z ?_
    exact ⟨i + 1, ⟨_, ov_self ⟨rfl, rfl, rfl, rfl, rfl, rfl, trivial⟩, by omega, hs⟩, by omega⟩
  · refine W_exit ?_
    refine W_seq ?_
    -- region 12
    refine W_region (by decide +kernel) ?_
    refine sq_r r_assign rfl ?_
    refine sq_z ?_
    refine W_ret ?_
    exact ret1 (v := .bool true) rfl (by decide) rfl (fin (c' := []) hs ⟨rfl, rfl⟩ (by simp))

end Go.Proofs.Ytddhdoncjfgfnaa
