/-
  Layer 14: the law ProfileCounts: whatever is met and banned, in any order, is counted as the document says. No condition.
-/
import Derived.Test.YtcdlbgmmogccaaaBoth
import Derived.Test.YtcdlbgmmogccaaaBans
namespace Go.Proofs.Ytcdlbgmmogccaaa
open Go.Eng

theorem r_neBf {P : Program} {w : World} {f : Fm} {d : Option Nat} {ty : TypeId} {pos : String} {after : Array Edge} {g : Option (Nat × Bool)} {x y : Operand} {T U : TypeId} {a b : Bool} (hu : P.underlying T = some .bool) (hx : ev f x = .bool a) (hy : ev f y = .bool b) (h : a = b) :
    (execOp (ev f) ⟨d, .binOp .neq T x y U, ty, pos, after, g⟩).run P w = .ok (.value (.bool false)) w := by
  rw [r_neB hu hx hy, h]
  simp
theorem rb_rows {rb : Nat} {r : RS} {c : Ck} (h : RB rb r c) : ∃ ra rcap, ∀ {w : World}, Hp c w → w.cell? ⟨rb, 0, none⟩ = some (.slice ra r.rows.length rcap) := by
  obtain ⟨rv, ov', rc, oc, hr, _, rfl⟩ := h
  obtain ⟨ra, rcap, rfl⟩ := hr.len
  exact ⟨ra, rcap, fun hp => At.one (hp.has (rb, cb [.slice ra r.rows.length rcap, ov', .int .i64 r.thr] 43) (by simp [rbC])) rfl⟩

set_option maxHeartbeats 2000000 in
theorem f6_law (t : Int) (v : Value) (xs : List (Vector Int 11)) : Ctr Try.prog 6 #[.int .i64 t, v] [] (fun w => Arg 11 w v xs) (fun v c => v = .bool true ∧ c = []) := by
  intro w0 hp harg
  have hs : St w0 (ks []) [] w0 := St.start w0
  obtain ⟨⟨a, cap, hv, hall⟩, hmx, hrng⟩ := id harg
  subst hv
  refine calls_W (n := 106) Try.func6 rfl Try.ntmps6 (by simp) ?_
  refine W_seq ?_
  -- region 0
  refine W_region (by decide +kernel) ?_
  refine sq_r r_assign rfl ?_
  refine sq_z ?_
  refine W_seq ?_
  refine W_seq ?_
  -- region 1
  refine W_region (by decide +kernel) ?_
  refine sq_e rfl (o_callN cb9 rfl rfl (Post := fun v _ => v = .bool true) f9_calls hs trivial ?_)
  rintro v w rfl hs
  refine sq_r (r_not rfl) rfl ?_
  refine sq_z ?_
  refine W_cond rfl rfl (fun hc => ?_) (fun hc => ?_)
  · cases hc
  refine W_skip ?_
  refine W_seq ?_
  refine W_seq ?_
  -- region 3
  refine W_region (by decide +kernel) ?_
  refine sq_r r_move rfl ?_
  refine sq_r (r_lenS Try.underlying46 rfl) rfl ?_
  refine sq_r (r_cmp rfl rfl rfl) rfl ?_
  refine sq_z ?_
  refine W_cond rfl rfl (fun hc => ?_) (fun hc => ?_)
  · refine W_seq ?_
    -- region 4
    refine W_region (by decide +kernel) ?_
    refine sq_r r_assign rfl ?_
    refine sq_z ?_
    refine W_ret ?_
    repeat with_reducible first | refine thenQ_ret ?_ | refine blockQ_ret ?_
    exact ret1 (v := .bool true) rfl (by decide) rfl (fin (c' := []) hs ⟨rfl, rfl⟩ (by simp))
  have hn : xs.length ≤ 1500 := by have := of_decide_eq_false hc; omega
  refine W_skip ?_
  refine W_seq ?_
  -- region 5
  refine W_region (by decide +kernel) ?_
  refine sq_r r_move rfl ?_
  refine sq_e rfl (o_call0 cb12 rfl rfl (f12_calls t) hs trivial ?_)
  rintro v c w ⟨bb, mc, mb, rfl, hcp⟩ hs
  have hs : St w0 (ks []) [bookC bb mc mb (new0 (max t 1))] w := St.permAt (i := 0) hs rfl hcp
  refine sq_r r_move rfl ?_
  refine sq_e rfl (o_call0 cb13 rfl rfl (f13_calls t) hs trivial ?_)
  rintro v c w ⟨rb, rfl, hrb⟩ hs
  refine sq_r r_assign rfl ?_
  refine sq_r r_assign rfl ?_
  refine sq_z ?_
  refine W_seq ?_
  refine W_seq ?_
  -- region 6
  refine W_region (by decide +kernel) ?_
  refine sq_r r_move rfl ?_
  refine sq_r (r_eqnil Try.underlying33 rfl rfl) rfl ?_
  refine sq_z ?_
  refine W_cond rfl rfl (fun hc => ?_) (fun hc => ?_)
  · cases hc
  refine W_skip ?_
  refine W_seq ?_
  refine W_seq ?_
  -- region 8
  refine W_region (by decide +kernel) ?_
  refine sq_r r_move rfl ?_
  refine sq_r (r_lenS Try.underlying46 rfl) rfl ?_
  refine sq_r r_move rfl ?_
  refine sq_z ?_
  refine W_block ?_ -- 0
  -- LOOP
  refine W_loop (fun (i : Nat) f w => ∃ g s r c, f = ov [(1, .slice a xs.length cap), (5, .pointer (some ⟨bb, 0, none⟩)), (6, .pointer (some ⟨rb, 0, none⟩)), (22, .slice a xs.length cap), (23, .int .i64 xs.length), (24, .int .i64 i)] g ∧ i ≤ xs.length ∧ Both i s r ∧ RB rb r c ∧
    St w0 (ks []) [bookC bb mc mb s, c] w) (fun i => xs.length - i) 0 ?_ ?_
  · exact ⟨_, new0 (max t 1), _, c, ov_self ⟨rfl, rfl, rfl, rfl, rfl, rfl, trivial⟩, Nat.zero_le _, Both.new _, hrb, hs⟩
  rintro i f w ⟨g, s, r, c, rfl, hi, hB, hrb, hs⟩
  refine W_seq ?_
  -- region 9
  refine W_region (by decide +kernel) ?_
  refine sq_r (r_cmp rfl rfl rfl) rfl ?_
  refine sq_z ?_
  refine W_seq ?_
  refine W_cond rfl rfl (fun hd => ?_) (fun hd => ?_)
  · have hlt : i < xs.length := by have := of_decide_eq_true hd; omega
    obtain ⟨x, hx⟩ : ∃ x, xs[i]? = some x := ⟨_, List.getElem?_eq_getElem hlt⟩
    obtain ⟨b, off, rfl, hb, hat⟩ := hall i x hx
    obtain ⟨d0, hd0⟩ : ∃ d0, (ic x.toList)[0 + 0]? = some (.int .i64 d0) := ⟨_, ic_get (List.getElem?_eq_getElem (by simp))⟩
    refine W_skip ?_
    refine W_seq ?_
    refine W_block ?_ -- 1
    refine W_seq ?_
    -- region 10
    refine W_region (by decide +kernel) ?_
    refine sq_r (r_index rfl rfl sl46 (by omega) (by omega)) rfl ?_
    refine sq_r (r_loadN (vs := ic x.toList) rfl ty48 (by simp) (hs.oldAt hb (by simp [ks]) hat)) rfl ?_
    refine sq_e rfl (o_alloc hs ty48 ?_); intro b3 w hs
    refine sq_e rfl (o_store (i := 2) (vs := ic x.toList) hs rfl rfl (by rw [ic_length, Vector.length_toList]; exact ty48) rfl (ic_one _) (by simp) ?_); intro w hs
    refine sq_z ?_
    have hs : St w0 (ks []) [bookC bb mc mb s, c, [(b3, cb (ic x.toList) 48)]] w := hs.cast (by simp only [act_zero]; rfl)
    refine W_mid (M := fun f w => ∃ g s r c, f = ov [(1, .slice (some ⟨b, off, none⟩) xs.length cap), (5, .pointer (some ⟨bb, 0, none⟩)), (6, .pointer (some ⟨rb, 0, none⟩)), (8, .pointer (some ⟨b3, 0, none⟩)), (22, .slice (some ⟨b, off, none⟩) xs.length cap), (23, .int .i64 xs.length), (24, .int .i64 i)] g ∧
      Both (i + 1) s r ∧ RB rb r c ∧ St w0 (ks []) [bookC bb mc mb s, c, [(b3, cb (ic x.toList) 48)]] w) ?_ (fun f w hM => ?_)
    · refine W_seq ?_
      -- region 11
      refine W_region (by decide +kernel) ?_
      refine sq_r (r_field rfl fa48_0) rfl ?_
      refine sq_r (r_load1 rfl ty3 (At.one (hs.own (i := 2) rfl) hd0)) rfl ?_
      refine sq_r (r_cmp rfl rfl rfl) rfl ?_
      refine sq_z ?_
      refine W_cond rfl rfl (fun he => ?_) (fun he => ?_)
      · refine W_seq ?_
        -- region 12
        refine W_region (by decide +kernel) ?_
        refine sq_r r_move rfl ?_
        refine sq_r (r_field rfl fa48_1) rfl ?_
        refine sq_r (r_loadN rfl ty28 (kc_len (kOf x)) (At.of_block (hs.own (i := 2) rfl) (kOf_cells x))) rfl ?_
        refine sq_e rfl (o_call (i := 0) cb19 rfl rfl (f19_calls bb mc mb s (kOf x) hB.wf hB.wb) hs rfl trivial ?_)
        rintro v c' w rfl hs
        refine sq_z ?_
        -- region 13
        refine W_region (by decide +kernel) ?_
        refine sq_r r_move rfl ?_
        refine sq_r (r_field rfl fa48_1) rfl ?_
        refine sq_r (r_loadN rfl ty28 (kc_len (kOf x)) (At.of_block (hs.own (i := 2) rfl) (kOf_cells x))) rfl ?_
        refine sq_e rfl (o_call (i := 1) cb20 rfl rfl (f20_calls rb r (kOf x) c hrb (by have := hB.rows (by omega); omega) (by have := hB.out (by omega); omega)) hs rfl trivial ?_)
        rintro v c' w ⟨z, hz, hrb'⟩ hs
        refine sq_z ?_
        exact ⟨_, _, _, c', ov_self ⟨rfl, rfl, rfl, rfl, rfl, rfl, rfl, trivial⟩, hB.ban hz, hrb', hs⟩
      · refine W_seq ?_
        -- region 14 DRAWS
        refine W_drawM hs Try.mixed [false, false, true] [0, 0, 2, 7, 0, 0, 32, 127, 255] [3, 7] [0, 1, 2, 4, 5, 6, 3, 7, 8] (by decide +kernel) ?_
        intro w hs; have hR := hs.mask [false, false, true]
        refine dq_r hR rfl rfl rfl (fun _ w _ _ hR => r_move) ?_
        refine dq_r hR rfl rfl rfl (fun _ w _ _ hR => r_field rfl fa48_1) ?_
        refine dq_r hR rfl rfl rfl (fun _ w _ _ hR => r_loadN rfl ty28 (kc_len (kOf x)) (At.of_block (hR.own (i := 2) rfl) (kOf_cells x))) ?_
        refine dq_r hR rfl rfl rfl (fun _ w _ _ hR => r_move) ?_
        refine dq_r hR rfl rfl rfl (fun _ w _ _ hR => r_field rfl fa48_1) ?_
        refine dq_r hR rfl rfl rfl (fun _ w _ _ hR => r_loadN rfl ty28 (kc_len (kOf x)) (At.of_block (hR.own (i := 2) rfl) (kOf_cells x))) ?_
        refine dq_e hR rfl rfl rfl (o_call (i := 0) cb14 rfl rfl (f14_calls bb mc mb s (kOf x) hB.wf (hB.clk (by omega)) (hB.cts (by omega))) hs rfl trivial ?_)
        rintro v c' w ⟨v1, s', rfl, hh, rfl⟩ hs
        have hR := hs.mask [false, false, true]
        refine dq_e hR rfl rfl rfl (o_call (i := 1) cb15 rfl rfl (f15_calls rb r (kOf x) c hrb (hB.rows (by omega)) (by have := hB.out (by omega); omega) (hB.rcts (by omega))) hs rfl trivial ?_)
        rintro v c' w ⟨v2, r', rfl, hr, hrb'⟩ hs
        have hR := hs.mask [false, false, true]
        obtain ⟨rfl, hB'⟩ := hB.hit hh hr
        refine dq_r hR rfl rfl rfl (fun _ w _ _ hR => r_neBf Try.underlying4 rfl rfl rfl) ?_
        refine dq_z hR ?_
        refine W_cond rfl rfl (fun he => ?_) (fun he => ?_)
        · cases he
        refine W_skip ?_
        exact ⟨_, s', r', c', ov_self ⟨rfl, rfl, rfl, rfl, rfl, rfl, rfl, trivial⟩, hB', hrb', hs⟩
    obtain ⟨g, s, r, c, rfl, hB, hrb, hs⟩ := hM
    obtain ⟨ra, rcap, hrows⟩ := rb_rows hrb
    refine W_seq ?_
    -- region 16 DRAWS
    refine W_drawM hs Try.mixed [true, true, true] [0, 0, 2, 7, 0, 0, 32, 127, 255, 511, 1023, 1023, 3071, 8191, 1023, 1023, 33791, 131071, 262143, 524287, 1048575, 2097151, 4194303, 2097151, 10485759, 27262975, 60817407, 127926271, 268435455, 536870911] [3, 7, 13, 17, 22] [0, 1, 2, 4, 5, 6, 3, 7, 8, 9, 10, 11, 12, 14, 15, 16, 13, 17, 18, 19, 20, 21, 23, 24, 25, 26, 27, 22, 28, 29] (by decide +kernel) ?_
    intro w hs; have hR := hs.mask [true, true, true]
    refine dq_r hR rfl rfl rfl (fun _ w _ _ hR => r_move) ?_
    refine dq_r hR rfl rfl rfl (fun _ w _ _ hR => r_field rfl fa48_1) ?_
    refine dq_r hR rfl rfl rfl (fun _ w _ _ hR => r_loadN rfl ty28 (kc_len (kOf x)) (At.of_block (hR.own (i := 2) rfl) (kOf_cells x))) ?_
    refine dq_r hR rfl rfl rfl (fun _ w _ _ hR => r_move) ?_
    refine dq_r hR rfl rfl rfl (fun _ w _ _ hR => r_field rfl fa48_1) ?_
    refine dq_r hR rfl rfl rfl (fun _ w _ _ hR => r_loadN rfl ty28 (kc_len (kOf x)) (At.of_block (hR.own (i := 2) rfl) (kOf_cells x))) ?_
    refine dq_e hR rfl rfl rfl (o_call (i := 0) cb16 rfl rfl (f16_calls bb mc mb s (kOf x)) hs rfl trivial ?_)
    rintro v c' w ⟨rfl, rfl⟩ hs
    have hR := hs.mask [true, true, true]
    refine dq_e hR rfl rfl rfl (o_call (i := 1) cb17 rfl rfl (f17_calls rb r (kOf x) c hrb (by have := hB.rows (by omega); omega)) hs rfl trivial ?_)
    rintro v c' w ⟨rfl, hcc⟩ hs
    subst hcc
    have hR := hs.mask [true, true, true]
    refine dq_r hR rfl rfl rfl (fun _ w _ _ hR => r_cmp (r := false) rfl rfl (by rw [hB.cnt]; simp [cmpB])) ?_
    refine dq_r hR rfl rfl rfl (fun _ w _ _ hR => r_move) ?_
    refine dq_r hR rfl rfl rfl (fun _ w _ _ hR => r_move) ?_
    refine dq_r hR rfl rfl rfl (fun _ w _ _ hR => r_field rfl fa48_1) ?_
    refine dq_r hR rfl rfl rfl (fun _ w _ _ hR => r_loadN rfl ty28 (kc_len (kOf x)) (At.of_block (hR.own (i := 2) rfl) (kOf_cells x))) ?_
    refine dq_r hR rfl rfl rfl (fun _ w _ _ hR => r_move) ?_
    refine dq_r hR rfl rfl rfl (fun _ w _ _ hR => r_field rfl fa48_1) ?_
    refine dq_r hR rfl rfl rfl (fun _ w _ _ hR => r_loadN rfl ty28 (kc_len (kOf x)) (At.of_block (hR.own (i := 2) rfl) (kOf_cells x))) ?_
    refine dq_e hR rfl rfl rfl (o_call (i := 0) cb21 rfl rfl (f21_calls bb mc mb s (kOf x)) hs rfl trivial ?_)
    rintro v c2 w ⟨rfl, rfl⟩ hs
    have hR := hs.mask [true, true, true]
    refine dq_e hR rfl rfl rfl (o_call (i := 1) cb22 rfl rfl (f22_calls rb r (kOf x) c' hrb (by have := hB.out (by omega); omega)) hs rfl trivial ?_)
    rintro v c2 w ⟨rfl, hcc⟩ hs
    subst hcc
    have hR := hs.mask [true, true, true]
    refine dq_r hR rfl rfl rfl (fun _ w _ _ hR => r_neBf Try.underlying4 rfl rfl (hB.isBan (kOf x))) ?_
    refine dq_r hR rfl rfl rfl (fun _ w _ _ hR => r_pick rfl) ?_
    refine dq_r hR rfl rfl rfl (fun _ w _ _ hR => r_move) ?_
    refine dq_r hR rfl rfl rfl (fun _ w _ _ hR => r_move) ?_
    refine dq_r hR rfl rfl rfl (fun _ w _ _ hR => r_move) ?_
    refine dq_r hR rfl rfl rfl (fun _ w _ _ hR => r_nilCheck rfl) ?_
    refine dq_r hR rfl rfl rfl (fun _ w _ _ hR => r_field rfl fa43_0) ?_
    refine dq_r hR rfl rfl rfl (fun _ w _ _ hR => r_load1 rfl ty40 (hrows (hR.at (i := 1) rfl))) ?_
    refine dq_r hR rfl rfl rfl (fun _ w _ _ hR => r_lenS Try.underlying40 rfl) ?_
    refine dq_e hR rfl rfl rfl (o_call (i := 0) cb18 rfl rfl (f18_calls bb mc mb s) hs rfl trivial ?_)
    rintro v c3 w ⟨rfl, rfl⟩ hs
    have hR := hs.mask [true, true, true]
    refine dq_r hR rfl rfl rfl (fun _ w _ _ hR => r_cmp (r := false) rfl rfl (by rw [hB.lens]; simp [cmpB])) ?_
    refine dq_r hR rfl rfl rfl (fun _ w _ _ hR => r_pick rfl) ?_
    refine dq_z hR ?_
    refine W_cond rfl rfl (fun he => ?_) (fun he => ?_)
    · cases he
    refine W_skip ?_
    -- region 18
    refine W_region (by decide +kernel) ?_
    refine sq_r (r_add rfl rfl (wrap_small (by omega) (by omega))) rfl ?_
    refine sq_r r_move rfl ?_
    refine sq_z ?_
    exact ⟨i + 1, ⟨_, s, r, _, ov_self ⟨rfl, rfl, rfl, rfl, rfl, rfl, trivial⟩, by omega, hB, hrb, (hs.mask [true, true, false]).cast (by simp [zipMask])⟩, by omega⟩
  · have hin : i = xs.length := by have := of_decide_eq_false hd; omega
    subst hin
    refine W_exit ?_ -- 0
    refine W_seq ?_
    refine W_seq ?_
    -- region 19
    refine W_region (by decide +kernel) ?_
    refine sq_r r_move rfl ?_
    refine sq_r (r_lenS Try.underlying46 rfl) rfl ?_
    refine sq_r r_move rfl ?_
    refine sq_z ?_
    refine W_block ?_ -- 2
    -- LOOP
    refine W_loop (fun (i : Nat) f w => ∃ g c, f = ov [(5, .pointer (some ⟨bb, 0, none⟩)), (6, .pointer (some ⟨rb, 0, none⟩)), (79, .slice a xs.length cap), (80, .int .i64 xs.length), (81, .int .i64 i)] g ∧ i ≤ xs.length ∧ RB rb r c ∧
      St w0 (ks []) [bookC bb mc mb s, c] w) (fun i => xs.length - i) 0 ?_ ?_
    · exact ⟨_, c, ov_self ⟨rfl, rfl, rfl, rfl, rfl, trivial⟩, Nat.zero_le _, hrb, hs⟩
    rintro i f w ⟨g, c, rfl, hi, hrb, hs⟩
    refine W_seq ?_
    -- region 20
    refine W_region (by decide +kernel) ?_
    refine sq_r (r_cmp rfl rfl rfl) rfl ?_
    refine sq_z ?_
    refine W_seq ?_
    refine W_cond rfl rfl (fun hd => ?_) (fun hd => ?_)
    · have hlt : i < xs.length := by have := of_decide_eq_true hd; omega
      obtain ⟨x, hx⟩ : ∃ x, xs[i]? = some x := ⟨_, List.getElem?_eq_getElem hlt⟩
      obtain ⟨b, off, rfl, hb, hat⟩ := hall i x hx
      refine W_skip ?_
      refine W_seq ?_
      refine W_block ?_ -- 3
      refine W_seq ?_
      -- region 21
      refine W_region (by decide +kernel) ?_
      refine sq_r (r_index rfl rfl sl46 (by omega) (by omega)) rfl ?_
      refine sq_r (r_loadN (vs := ic x.toList) rfl ty48 (by simp) (hs.oldAt hb (by simp [ks]) hat)) rfl ?_
      refine sq_e rfl (o_alloc hs ty48 ?_); intro b3 w hs
      refine sq_e rfl (o_store (i := 2) (vs := ic x.toList) hs rfl rfl (by rw [ic_length, Vector.length_toList]; exact ty48) rfl (ic_one _) (by simp) ?_); intro w hs
      refine sq_z ?_
      have hs : St w0 (ks []) [bookC bb mc mb s, c, [(b3, cb (ic x.toList) 48)]] w := hs.cast (by simp only [act_zero]; rfl)
      refine W_seq ?_
      -- region 22 DRAWS
      refine W_drawM hs Try.mixed [true, true, true] [0, 0, 2, 7, 0, 0, 32, 127, 255, 511, 1023, 1023, 3071, 8191, 1023, 1023, 33791, 131071, 262143, 524287] [3, 7, 13, 17] [0, 1, 2, 4, 5, 6, 3, 7, 8, 9, 10, 11, 12, 14, 15, 16, 13, 17, 18, 19] (by decide +kernel) ?_
      intro w hs; have hR := hs.mask [true, true, true]
      refine dq_r hR rfl rfl rfl (fun _ w _ _ hR => r_move) ?_
      refine dq_r hR rfl rfl rfl (fun _ w _ _ hR => r_field rfl fa48_1) ?_
      refine dq_r hR rfl rfl rfl (fun _ w _ _ hR => r_loadN rfl ty28 (kc_len (kOf x)) (At.of_block (hR.own (i := 2) rfl) (kOf_cells x))) ?_
      refine dq_r hR rfl rfl rfl (fun _ w _ _ hR => r_move) ?_
      refine dq_r hR rfl rfl rfl (fun _ w _ _ hR => r_field rfl fa48_1) ?_
      refine dq_r hR rfl rfl rfl (fun _ w _ _ hR => r_loadN rfl ty28 (kc_len (kOf x)) (At.of_block (hR.own (i := 2) rfl) (kOf_cells x))) ?_
      refine dq_e hR rfl rfl rfl (o_call (i := 0) cb16 rfl rfl (f16_calls bb mc mb s (kOf x)) hs rfl trivial ?_)
      rintro v c' w ⟨rfl, rfl⟩ hs
      have hR := hs.mask [true, true, true]
      refine dq_e hR rfl rfl rfl (o_call (i := 1) cb17 rfl rfl (f17_calls rb r (kOf x) c hrb (by have := hB.rows (by omega); omega)) hs rfl trivial ?_)
      rintro v c' w ⟨rfl, hcc⟩ hs
      subst hcc
      have hR := hs.mask [true, true, true]
      refine dq_r hR rfl rfl rfl (fun _ w _ _ hR => r_cmp (r := false) rfl rfl (by rw [hB.cnt]; simp [cmpB])) ?_
      refine dq_r hR rfl rfl rfl (fun _ w _ _ hR => r_move) ?_
      refine dq_r hR rfl rfl rfl (fun _ w _ _ hR => r_move) ?_
      refine dq_r hR rfl rfl rfl (fun _ w _ _ hR => r_field rfl fa48_1) ?_
      refine dq_r hR rfl rfl rfl (fun _ w _ _ hR => r_loadN rfl ty28 (kc_len (kOf x)) (At.of_block (hR.own (i := 2) rfl) (kOf_cells x))) ?_
      refine dq_r hR rfl rfl rfl (fun _ w _ _ hR => r_move) ?_
      refine dq_r hR rfl rfl rfl (fun _ w _ _ hR => r_field rfl fa48_1) ?_
      refine dq_r hR rfl rfl rfl (fun _ w _ _ hR => r_loadN rfl ty28 (kc_len (kOf x)) (At.of_block (hR.own (i := 2) rfl) (kOf_cells x))) ?_
      refine dq_e hR rfl rfl rfl (o_call (i := 0) cb21 rfl rfl (f21_calls bb mc mb s (kOf x)) hs rfl trivial ?_)
      rintro v c2 w ⟨rfl, rfl⟩ hs
      have hR := hs.mask [true, true, true]
      refine dq_e hR rfl rfl rfl (o_call (i := 1) cb22 rfl rfl (f22_calls rb r (kOf x) c' hrb (by have := hB.out (by omega); omega)) hs rfl trivial ?_)
      rintro v c2 w ⟨rfl, hcc⟩ hs
      subst hcc
      have hR := hs.mask [true, true, true]
      refine dq_r hR rfl rfl rfl (fun _ w _ _ hR => r_neBf Try.underlying4 rfl rfl (hB.isBan (kOf x))) ?_
      refine dq_r hR rfl rfl rfl (fun _ w _ _ hR => r_pick rfl) ?_
      refine dq_z hR ?_
      refine W_cond rfl rfl (fun he => ?_) (fun he => ?_)
      · cases he
      refine W_skip ?_
      -- region 24
      refine W_region (by decide +kernel) ?_
      refine sq_r (r_add rfl rfl (wrap_small (by omega) (by omega))) rfl ?_
      refine sq_r r_move rfl ?_
      refine sq_z ?_
      exact ⟨i + 1, ⟨_, _, ov_self ⟨rfl, rfl, rfl, rfl, rfl, trivial⟩, by omega, hrb, (hs.mask [true, true, false]).cast (by simp [zipMask])⟩, by omega⟩
    · refine W_exit ?_ -- 2
      refine W_seq ?_
      -- region 25
      refine W_region (by decide +kernel) ?_
      refine sq_r r_assign rfl ?_
      refine sq_z ?_
      refine W_ret ?_
      exact ret1 (v := .bool true) rfl (by decide) rfl (fin (c' := []) hs ⟨rfl, rfl⟩ (by simp))

end Go.Proofs.Ytcdlbgmmogccaaa
