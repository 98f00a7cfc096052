/-
  Layer 15: chapter 15's example (awake). No condition.
-/
import Derived.Test.YtddhdoncjfgfnaaGet
namespace Go.Proofs.Ytddhdoncjfgfnaa
open Go.Eng

/-- The chunks may be told in another order. -/
theorem st_perm {w0 w : World} {F0 : List Nat} {ls ls' : List Ck} (h : St w0 F0 ls w) (hp : ls.flatten.Perm ls'.flatten) : St w0 F0 ls' w :=
  ⟨fun p hp' => h.has p (hp.mem_iff.2 hp'), (hp.map _).nodup_iff.1 h.nodup, fun b hb => h.fresh b ((hp.map _).mem_iff.2 hb), h.os, h.tape, h.output, h.size, h.old⟩
theorem put_last {s : C15} (h : s.limit ≠ 0) (y : LT) : (putS s y).last = s.last + 1 ∧ (putS s y).limit = s.limit := by
  rw [putS, if_neg h]
  have h1 := ev1_last (dropK s y.key)
  have h2 := drop_last s y.key
  exact ⟨by show (ev1 (dropK s y.key)).last + 1 = _; rw [h1.1, h2.1], by show (ev1 (dropK s y.key)).limit = _; rw [h1.2, h2.2]⟩
theorem kN_ne {a b : Int} (h : a ≠ b) : kN a ≠ kN b := fun e => h (by
  have := congrArg (fun k : Ky => k[0]) e
  simpa [kN] using this)
def aw1 (y1 : LT) : C15 := ⟨([(1, y1, 0)], 1), [1], ([], 0), ([], 0), 2, [1], 1, 1⟩
def aw2 (y1 y2 : LT) : C15 := ⟨([(1, y1, 0), (2, y2, 1)], 2), [1, 2], ([], 0), ([], 0), 2, [1], 2, 2⟩
def aw3 (y1 y3 : LT) : C15 := ⟨([(1, y1, 0), (3, y3, 2)], 3), [1, 3], ([], 0), ([], 0), 2, [], 3, 2⟩
theorem aw1_eq (y1 : LT) : putS (newK 2 [1]) y1 = aw1 y1 := by
  have hn : newK 2 [1] = ⟨([], 0), [], ([], 0), ([], 0), 2, [1], 0, 0⟩ := by
    have : min (max (2 : Int) 0) 1000 = 2 := by decide
    simp only [newK, this]
  have e : findK (newK 2 [1]) y1.key = 0 := by simp [findK, newK]
  have hd : dropK (newK 2 [1]) y1.key = newK 2 [1] := by rw [dropK, e]; simp
  have hv : ev1 (newK 2 [1]) = newK 2 [1] := by rw [hn]; simp [ev1]
  rw [putS, if_neg (by rw [hn]; simp), hd, hv, hn]
  simp [addK, mput, mclk, aw1]
  decide
theorem aw2_eq {y1 y2 : LT} (h1 : y1.key = kN 1) (h2 : y2.key = kN 2) : putS (aw1 y1) y2 = aw2 y1 y2 := by
  have e : findK (aw1 y1) y2.key = 0 := by
    simp [findK, aw1, hasKey, keyOf, mget, h1, h2, kN_ne (show (1 : Int) ≠ 2 by decide)]
  have hd : dropK (aw1 y1) y2.key = aw1 y1 := by rw [dropK, e]; simp
  have hv : ev1 (aw1 y1) = aw1 y1 := by simp [ev1, aw1]
  rw [putS, if_neg (by simp [aw1]), hd, hv]
  simp [addK, mput, mclk, aw1, aw2]
  decide
theorem aw3_eq {y1 y2 y3 : LT} (h1 : y1.key = kN 1) (h2 : y2.key = kN 2) (h3 : y3.key = kN 3) : putS (aw2 y1 y2) y3 = aw3 y1 y3 := by
  have e : findK (aw2 y1 y2) y3.key = 0 := by
    simp [findK, aw2, hasKey, keyOf, mget, h1, h2, h3, kN_ne (show (1 : Int) ≠ 3 by decide), kN_ne (show (2 : Int) ≠ 3 by decide)]
  have hd : dropK (aw2 y1 y2) y3.key = aw2 y1 y2 := by rw [dropK, e]; simp
  have hp : pickN (aw2 y1 y2) 2 = 1 := by simp [pickN, aw2]
  have ev : ev1 (aw2 y1 y2) = ⟨([(1, y1, 0)], 2), [1], ([], 0), ([], 0), 2, [], 2, 2⟩ := by
    have hl : ((aw2 y1 y2).order.length : Int) = 2 := rfl
    have hlim : (aw2 y1 y2).limit = 2 := rfl
    rw [ev1, hl, hlim, if_pos (by decide), evK, hl, hp]
    simp [aw2, goneK, pickS, mdel, rest]
  rw [putS, if_neg (by simp [aw2]), hd, ev]
  simp [addK, mput, mclk, aw3]
theorem awake_pure {y1 y2 y3 : LT} (h1 : y1.key = kN 1) (h2 : y2.key = kN 2) (h3 : y3.key = kN 3) :
    (putS (putS (putS (newK 2 [1]) y1) y2) y3).most = 2 ∧ (putS (putS (putS (newK 2 [1]) y1) y2) y3).order.length = 2 ∧ findK (putS (putS (putS (newK 2 [1]) y1) y2) y3) (kN 2) = 0 := by
  rw [aw1_eq, aw2_eq h1 h2, aw3_eq h1 h2 h3]
  refine ⟨rfl, rfl, ?_⟩
  simp [findK, aw3, hasKey, keyOf, mget, h1, h3, kN_ne (show (1 : Int) ≠ 2 by decide), kN_ne (show (3 : Int) ≠ 2 by decide)]

set_option maxRecDepth 20000 in
set_option maxHeartbeats 2000000 in
theorem f7_calls : Ctr Try.prog 7 #[] [] (fun _ => True) (fun v c => v = .bool true ∧ c = []) := by
  intro w0 hp hro
  have hs : St w0 (ks []) [] w0 := St.start w0
  refine calls_W (n := 54) Try.func7 rfl Try.ntmps7 (by simp) ?_
  refine W_seq ?_
  -- region 0
  refine W_region (by decide +kernel) ?_
  refine sq_r r_assign rfl ?_
  refine sq_z ?_
  refine W_seq ?_
  -- region 1
  refine W_region (by decide +kernel) ?_
  refine sq_e rfl (o_buildN [.int .i64 1] [[.int .i64 1]] sl27 ty3 hs rfl rfl rfl (by simp) (by simp) ?_); intro b8 w hs
  refine sq_e rfl (o_call0 cb9 rfl rfl (f9_calls 2 (.slice (some ⟨b8, 0, none⟩) 1 1) [1] (fun _ => True) (by simp)) hs ⟨_, _, rfl, fun i x hi => ?_⟩ ?_)
  · obtain ⟨rfl, rfl⟩ : i = 0 ∧ x = 1 := by
      cases i with
      | zero => simp at hi; exact ⟨rfl, hi.symm⟩
      | succ i => simp at hi
    exact ⟨b8, 0, rfl, trivial, At.of_block (hs.own (i := 0) rfl) (by simp)⟩
  rintro v c w ⟨bb, c0, rfl, hcp, hb0⟩ hs
  have hs : St w0 (ks []) [c0] w := st_perm (ls := [c]) (hs.keep (by simp)) (by simpa using hcp)
  refine sq_r r_assign rfl ?_
  refine sq_z ?_
  refine W_seq ?_
  refine W_seq ?_
  -- region 2
  refine W_region (by decide +kernel) ?_
  refine sq_r r_move rfl ?_
  refine sq_r (r_eqnil Try.underlying36 rfl rfl) rfl ?_
  refine sq_z ?_
  refine W_cond rfl rfl (fun hc => ?_) (fun hc => ?_)
  · cases hc
  refine W_skip ?_
  refine W_seq ?_
  have ok0 : Ok (newK 2 [1]) := Ok.new 2 [1] (by simp)
  have hl0 : (newK 2 [1]).limit ≠ 0 := by simp only [newK]; omega
  have ha0 : (newK 2 [1]).last = 0 := rfl
  obtain ⟨s0, es0⟩ : ∃ s, s = newK 2 [1] := ⟨_, rfl⟩
  rw [← es0] at ok0 hl0 ha0 hb0
  -- region 4
  refine W_region (by decide +kernel) ?_
  refine sq_r r_move rfl ?_
  refine sq_e rfl (o_callN cb21 rfl rfl (Post := fun r _ => r = evT (ofT 1)) (f21_calls 1) hs trivial ?_)
  rintro u w rfl hs
  refine sq_e rfl (o_call (i := 0) cb10 rfl rfl (f10_calls bb _ c0 hb0 ok0 (by rw [ha0]; decide) (ofT 1) (small_of 1)) hs rfl (rd_of 1) ?_)
  rintro u c1 w ⟨y1, hy1, rfl, hb1⟩ hs
  have ok1 := ok0.put y1
  obtain ⟨ha1, hl1⟩ := put_last hl0 y1
  rw [ha0] at ha1
  have n0 : putN s0 = 1 := by rw [putN, if_neg hl0, ha0]; rfl
  rw [n0]
  obtain ⟨s1, es1⟩ : ∃ s, s = putS s0 y1 := ⟨_, rfl⟩
  rw [← es1] at ok1 ha1 hl1 hb1
  refine sq_r r_move rfl ?_
  refine sq_e rfl (o_callN cb21 rfl rfl (Post := fun r _ => r = evT (ofT 2)) (f21_calls 2) hs trivial ?_)
  rintro u w rfl hs
  refine sq_e rfl (o_call (i := 0) cb10 rfl rfl (f10_calls bb _ c1 hb1 ok1 (by rw [ha1]; decide) (ofT 2) (small_of 2)) hs rfl (rd_of 2) ?_)
  rintro u c2 w ⟨y2, hy2, rfl, hb2⟩ hs
  have ok2 := ok1.put y2
  obtain ⟨ha2, hl2⟩ := put_last (by rw [hl1]; exact hl0) y2
  rw [ha1] at ha2
  have n1 : putN s1 = 2 := by rw [putN, if_neg (by rw [hl1]; exact hl0), ha1]; rfl
  rw [n1]
  obtain ⟨s2, es2⟩ : ∃ s, s = putS s1 y2 := ⟨_, rfl⟩
  rw [← es2] at ok2 ha2 hl2 hb2
  refine sq_r r_move rfl ?_
  refine sq_e rfl (o_callN cb21 rfl rfl (Post := fun r _ => r = evT (ofT 3)) (f21_calls 3) hs trivial ?_)
  rintro u w rfl hs
  refine sq_e rfl (o_call (i := 0) cb10 rfl rfl (f10_calls bb _ c2 hb2 ok2 (by rw [ha2]; decide) (ofT 3) (small_of 3)) hs rfl (rd_of 3) ?_)
  rintro u c3 w ⟨y3, hy3, rfl, hb3⟩ hs
  have ok3 := ok2.put y3
  have n2 : putN s2 = 3 := by rw [putN, if_neg (by rw [hl2, hl1]; exact hl0), ha2]; rfl
  rw [n2]
  obtain ⟨s3, es3⟩ : ∃ s, s = putS s2 y3 := ⟨_, rfl⟩
  rw [← es3] at ok3 hb3
  obtain ⟨hm, ho, hf⟩ : s3.most = 2 ∧ s3.order.length = 2 ∧ findK s3 (kN 2) = 0 := by
    have := awake_pure (y1 := y1) (y2 := y2) (y3 := y3) (LT.t_eq hy1).1 (LT.t_eq hy2).1 (LT.t_eq hy3).1
    rwa [← es0, ← es1, ← es2, ← es3] at this
  refine sq_r r_assign rfl ?_
  refine sq_r r_assign rfl ?_
  refine sq_r r_assign rfl ?_
  refine sq_z ?_
  have hs : St w0 (ks []) [c3] w := hs
  refine W_seq ?_
  -- region 5
  refine W_region (by decide +kernel) ?_
  refine sq_r r_move rfl ?_
  refine sq_e rfl (o_callN cb21 rfl rfl (Post := fun r _ => r = evT (ofT 2)) (f21_calls 2) hs trivial ?_)
  rintro u w rfl hs
  refine sq_r (r_key (y := ofT 2) rfl fd33_0 ty26) rfl ?_
  refine sq_e rfl (o_call0 cb11 rfl rfl (f11_calls bb _ c3 hb3 (kN 2) (by omega)) hs (hs.at (i := 0) rfl) ?_)
  rintro u d w h11 hs
  obtain ⟨_, rfl, rfl⟩ : findK s3 (kN 2) = 0 ∧ u = .tuple #[evT zLT, .int .i64 0, .bool false] ∧ d = [] := by
    rcases h11 with h | ⟨h, _⟩
    · exact h
    · exact absurd hf h
  refine sq_r r_move rfl ?_
  refine sq_r (r_extract rfl rfl) rfl ?_
  refine sq_r (r_extract rfl rfl) rfl ?_
  refine sq_r (r_extract rfl rfl) rfl ?_
  refine sq_e rfl (o_alloc hs ty33 ?_); intro b5 w hs
  refine sq_e rfl (o_store (i := 2) (vs := trC zLT) hs rfl rfl ty33 rfl (RdT.z (B := fun _ => True) (w := w)).one (by simp [trC_len]) ?_); intro w hs
  refine sq_r r_assign rfl ?_
  refine sq_r r_assign rfl ?_
  refine sq_z ?_
  have hs : St w0 (ks []) [c3] w := hs.keep (by simp)
  have h16 := f16_calls bb s3 c3 hb3
  rw [hm] at h16
  have h13 := f13_calls bb s3 c3 hb3 (by omega)
  refine W_seq ?_
  -- region 6
  refine W_region (by decide +kernel) ?_
  refine sq_r r_move rfl ?_
  refine sq_r (r_cmp (r := true) rfl rfl rfl) rfl ?_
  refine sq_r r_move rfl ?_
  refine sq_r r_move rfl ?_
  refine sq_r (r_cmp (r := true) rfl rfl rfl) rfl ?_
  refine sq_r (r_pick (b := true) rfl) rfl ?_
  refine sq_r r_move rfl ?_
  refine sq_r r_move rfl ?_
  refine sq_r (r_cmp (r := true) rfl rfl rfl) rfl ?_
  refine sq_r (r_pick (b := true) rfl) rfl ?_
  refine sq_r r_move rfl ?_
  refine sq_r r_move rfl ?_
  refine sq_r (r_not rfl) rfl ?_
  refine sq_r (r_pick (b := true) rfl) rfl ?_
  refine sq_r r_move rfl ?_
  refine sq_r r_move rfl ?_
  refine sq_e rfl (o_callN cb16 rfl rfl (Post := fun r _ => r = .int .i64 2) h16 hs (hs.at (i := 0) rfl) ?_)
  rintro u w rfl hs
  refine sq_r (r_cmp (r := true) rfl rfl rfl) rfl ?_
  refine sq_r (r_pick (b := true) rfl) rfl ?_
  refine sq_r r_move rfl ?_
  refine sq_r r_move rfl ?_
  refine sq_e rfl (o_call0 cb13 rfl rfl h13 hs (hs.at (i := 0) rfl) ?_)
  rintro u d w hsl hs
  have hl := Sl.len hsl
  obtain ⟨ka, hl⟩ := hl
  obtain ⟨kcap, hue⟩ := hl
  subst hue
  refine sq_r (r_lenS Try.underlying45 rfl) rfl ?_
  refine sq_r (r_cmp (r := true) rfl rfl (by simp [cmpB, ho])) rfl ?_
  refine sq_r (r_pick (b := true) rfl) rfl ?_
  refine sq_r r_assign rfl ?_
  refine sq_z ?_
  refine W_ret ?_
  exact ret1 (v := .bool true) rfl (by decide) rfl (fin (c' := []) hs ⟨rfl, rfl⟩ (by simp))

end Go.Proofs.Ytddhdoncjfgfnaa
