/-
  Layer 14: the law ProfileBans: a key that is banned is never told again, and others are counted as if it had never been. No condition.
-/
import Derived.Test.YtcdlbgmmogccaaaState
namespace Go.Proofs.Ytcdlbgmmogccaaa
open Go.Eng

theorem flat48 : flat Try.prog 6 48 11 = true := by kernel_rfl
/-- The key of an act. -/
def kOf (x : Vector Int 11) : Ky := ⟨(x.toList.drop 1).toArray, by simp⟩
theorem kOf_cells (x : Vector Int 11) : ((ic x.toList).drop 1).take (kc (kOf x)).length = kc (kOf x) := by
  have : (kOf x).toList = x.toList.drop 1 := by simp [kOf, Vector.toList]
  rw [ic_drop, kc, this, List.take_length]
theorem act_zero (x : Vector Int 11) : spl [Value.int .i64 0, .int .i64 0, .int .i64 0, .int .i64 0, .int .i64 0, .int .i64 0, .int .i64 0, .int .i64 0, .int .i64 0, .int .i64 0, .int .i64 0] 0 (ic x.toList) = ic x.toList := spl_all (by simp)

/-- Such a book, but that k is banned. -/
def sA (k : Ky) (s : BS) : BS := { s with bn := [(k, 1, 0)], cb := 1 }
structure BI (i : Nat) (k : Ky) (s : BS) : Prop where
  sm : Sm i s
  bn : s.bn = []
  no : mget s.m k = none
theorem sA_ban (k x : Ky) (s : BS) : isBan (sA k s) x = decide (k = x) := by
  unfold isBan sA mget
  by_cases h : k = x <;> simp [h]
theorem BI.ban {i : Nat} {k : Ky} {s : BS} (h : BI i k s) (x : Ky) : isBan s x = false := by
  unfold isBan
  rw [h.bn]
  simp [mget]
theorem BI.hitA {i : Nat} {k : Ky} {s s' : BS} {v : Bool} (h : BI i k s) (hi : i < 1000) {x : Ky} (hx : k ≠ x) (hh : HitR (sA k s) x v s') :
    v = decide (s.thr ≤ (ctK s x).1 + 1) ∧ s' = sA k (hitS s x s.m (ctK s x) (clkK s x)) :=
  hit_small hh (by rw [sA_ban]; simpa using hx) (Nat.lt_of_le_of_lt h.sm.len hi)
theorem BI.hitB {i : Nat} {k : Ky} {s s' : BS} {v : Bool} (h : BI i k s) (hi : i < 1000) {x : Ky} (hh : HitR s x v s') :
    v = decide (s.thr ≤ (ctK s x).1 + 1) ∧ s' = hitS s x s.m (ctK s x) (clkK s x) :=
  hit_small hh (h.ban x) (Nat.lt_of_le_of_lt h.sm.len hi)
theorem BI.next {i : Nat} {k : Ky} {s : BS} (h : BI i k s) {x : Ky} (hx : k ≠ x) : BI (i + 1) k (hitS s x s.m (ctK s x) (clkK s x)) :=
  ⟨h.sm.hit x, h.bn, by show mget (mput _ _ _ _) k = none; rw [mget_mput_ne hx]; exact h.no⟩
theorem BI.skip {i : Nat} {k : Ky} {s : BS} (h : BI i k s) : BI (i + 1) k s := ⟨h.sm.mono (by omega), h.bn, h.no⟩

set_option maxHeartbeats 1000000 in
theorem f8_law (t : Int) (k : Ky) (v : Value) (xs : List (Vector Int 11)) : Ctr Try.prog 8 #[.int .i64 t, v, encV k] [] (fun w => Arg 11 w v xs) (fun v c => v = .bool true ∧ c = []) := by
  intro w0 hp harg
  have hs : St w0 (ks []) [] w0 := St.start w0
  obtain ⟨⟨a, cap, hv, hall⟩, hmx, hrng⟩ := id harg
  subst hv
  refine calls_W (n := 68) Try.func8 rfl Try.ntmps8 (by simp) ?_
  refine W_seq ?_
  -- region 0
  refine W_region (by decide +kernel) ?_
  refine sq_e rfl (o_box (cs := kc k) hs rfl ?_); intro b0 w hs
  refine sq_r r_assign rfl ?_
  refine sq_z ?_
  refine W_seq ?_
  refine W_seq ?_
  -- region 1
  refine W_region (by decide +kernel) ?_
  refine sq_e rfl (o_callN cb9 rfl rfl (Post := fun v _ => v = .bool true) f9_calls hs trivial ?_)
  rintro v w rfl hs
  refine sq_r (r_not rfl) rfl ?_
  refine sq_z ?_
  -- IF ('tmp', 12)
  refine W_cond rfl rfl (fun hc => ?_) (fun hc => ?_)
  · cases hc
  refine W_skip ?_
  refine W_seq ?_
  refine W_seq ?_
  -- region 3
  refine W_region (by decide +kernel) ?_
  refine sq_r r_move rfl ?_
  refine sq_r (r_lenS Try.underlying46 rfl) rfl ?_
  refine sq_r (r_cmp rfl rfl rfl) rfl ?_
  refine sq_z ?_
  -- IF ('tmp', 15)
  refine W_cond rfl rfl (fun hc => ?_) (fun hc => ?_)
  · refine W_seq ?_
    -- region 4
    refine W_region (by decide +kernel) ?_
    refine sq_r r_assign rfl ?_
    refine sq_z ?_
    refine W_ret ?_
    repeat with_reducible first | refine thenQ_ret ?_ | refine blockQ_ret ?_
    exact ret1 (v := .bool true) rfl (by decide) rfl (fin (c' := []) hs ⟨rfl, rfl⟩ (by simp))
  have hn : xs.length ≤ 500 := by have := of_decide_eq_false hc; omega
  refine W_skip ?_
  refine W_seq ?_
  -- region 5
  refine W_region (by decide +kernel) ?_
  refine sq_r r_move rfl ?_
  refine sq_e rfl (o_call0 cb12 rfl rfl (f12_calls t) hs trivial ?_)
  rintro v c w ⟨ba, mca, mba, rfl, hcp⟩ hs
  have hs : St w0 (ks []) [[(b0, cb (kc k) 28)], bookC ba mca mba (new0 (max t 1))] w := St.permAt (i := 1) hs rfl hcp
  refine sq_r r_move rfl ?_
  refine sq_e rfl (o_call0 cb12 rfl rfl (f12_calls t) hs trivial ?_)
  rintro v c w ⟨bb, mcb, mbb, rfl, hcp⟩ hs
  have hs : St w0 (ks []) [[(b0, cb (kc k) 28)], bookC ba mca mba (new0 (max t 1)), bookC bb mcb mbb (new0 (max t 1))] w := St.permAt (i := 2) hs rfl hcp
  refine sq_r r_assign rfl ?_
  refine sq_r r_assign rfl ?_
  refine sq_z ?_
  refine W_seq ?_
  refine W_seq ?_
  -- region 6
  refine W_region (by decide +kernel) ?_
  refine sq_r r_move rfl ?_
  refine sq_r (r_eqnil Try.underlying33 rfl rfl) rfl ?_
  refine sq_r r_move rfl ?_
  refine sq_r r_move rfl ?_ /- GUARD 2 False -/
  refine sq_r (r_eqnil Try.underlying33 rfl rfl) rfl ?_ /- GUARD 2 False -/
  refine sq_r (r_pick rfl) rfl ?_
  refine sq_z ?_
  -- IF ('tmp', 25)
  refine W_cond rfl rfl (fun hc => ?_) (fun hc => ?_)
  · cases hc
  refine W_skip ?_
  refine W_seq ?_
  -- region 8
  refine W_region (by decide +kernel) ?_
  refine sq_r r_move rfl ?_
  refine sq_r (r_loadN rfl ty28 (kc_len k) (At.of_block (hs.own (i := 0) rfl) (kc_all k))) rfl ?_
  refine sq_e rfl (o_call (i := 1) cb19 rfl rfl (f19_calls ba mca mba (new0 (max t 1)) k (Mwf.nil 0) (Mwf.nil 0)) hs rfl trivial ?_)
  rintro v c w rfl hs
  refine sq_z ?_
  have hs : St w0 (ks []) [[(b0, cb (kc k) 28)], bookC ba mca mba (sA k (new0 (max t 1))), bookC bb mcb mbb (new0 (max t 1))] w := hs
  refine W_seq ?_
  refine W_seq ?_
  -- region 9
  refine W_region (by decide +kernel) ?_
  refine sq_r r_move rfl ?_
  refine sq_r (r_lenS Try.underlying46 rfl) rfl ?_
  refine sq_r r_move rfl ?_
  refine sq_z ?_
  refine W_block ?_ -- 0
  -- LOOP
  refine W_loop (fun (i : Nat) f w => ∃ g s, f = ov [(5, .pointer (some ⟨b0, 0, none⟩)), (7, .pointer (some ⟨ba, 0, none⟩)), (8, .pointer (some ⟨bb, 0, none⟩)), (29, .slice a xs.length cap), (30, .int .i64 xs.length), (31, .int .i64 i)] g ∧ i ≤ xs.length ∧ BI i k s ∧
    St w0 (ks []) [[(b0, cb (kc k) 28)], bookC ba mca mba (sA k s), bookC bb mcb mbb s] w) (fun i => xs.length - i) 0 ?_ ?_
  · exact ⟨_, new0 (max t 1), ov_self ⟨rfl, rfl, rfl, rfl, rfl, rfl, trivial⟩, Nat.zero_le _, ⟨Sm.new _, rfl, rfl⟩, hs⟩
  rintro i f w ⟨g, s, rfl, hi, hI, hs⟩
  refine W_seq ?_
  -- region 10
  refine W_region (by decide +kernel) ?_
  refine sq_r (r_cmp rfl rfl rfl) rfl ?_
  refine sq_z ?_
  refine W_seq ?_
  -- IF ('tmp', 32)
  refine W_cond rfl rfl (fun hc => ?_) (fun hc => ?_)
  · have hlt : i < xs.length := by have := of_decide_eq_true hc; omega
    obtain ⟨x, hx⟩ : ∃ x, xs[i]? = some x := ⟨_, List.getElem?_eq_getElem hlt⟩
    obtain ⟨b, off, rfl, hb, hat⟩ := hall i x hx
    refine W_skip ?_
    refine W_seq ?_
    refine W_block ?_ -- 1
    refine W_seq ?_
    -- region 11
    refine W_region (by decide +kernel) ?_
    refine sq_r (r_index rfl rfl sl46 (by omega) (by omega)) rfl ?_
    refine sq_r (r_loadN (vs := ic x.toList) rfl ty48 (by simp) (hs.oldAt hb (by simp [ks]) hat)) rfl ?_
    refine sq_e rfl (o_alloc hs ty48 ?_); intro b3 w hs
    refine sq_e rfl (o_store (i := 3) (vs := ic x.toList) hs rfl rfl (by rw [ic_length, Vector.length_toList]; exact ty48) rfl (ic_one _) (by simp) ?_); intro w hs
    refine sq_z ?_
    have hs : St w0 (ks []) [[(b0, cb (kc k) 28)], bookC ba mca mba (sA k s), bookC bb mcb mbb s, [(b3, cb (ic x.toList) 48)]] w := hs.cast (by simp only [act_zero]; rfl)
    refine W_seq ?_
    refine W_seq ?_
    -- region 12
    refine W_region (by decide +kernel) ?_
    refine sq_r (r_field rfl fa48_1) rfl ?_
    refine sq_r (r_loadN rfl ty28 (kc_len (kOf x)) (At.of_block (hs.own (i := 3) rfl) (kOf_cells x))) rfl ?_
    refine sq_r (r_loadN rfl ty28 (kc_len k) (At.of_block (hs.own (i := 0) rfl) (kc_all k))) rfl ?_
    refine sq_r (r_eqS (a := kOf x) (b := k) Try.underlying28 flat28 (by decide) (by kernel_rfl) rfl rfl) rfl ?_
    refine sq_z ?_
    -- IF ('tmp', 38)
    refine W_cond rfl rfl (fun hc => ?_) (fun hc => ?_)
    · refine W_seq ?_
      refine W_seq ?_
      -- region 13
      refine W_region (by decide +kernel) ?_
      refine sq_r r_move rfl ?_
      refine sq_r (r_loadN rfl ty28 (kc_len k) (At.of_block (hs.own (i := 0) rfl) (kc_all k))) rfl ?_
      refine sq_e rfl (o_call (i := 1) cb14 rfl rfl (f14_calls ba mca mba (sA k s) k hI.sm.wf (hI.sm.hclk (by omega)) (hI.sm.hct (by omega))) hs rfl trivial ?_)
      rintro v c w ⟨r, s', rfl, hh, rfl⟩ hs
      obtain ⟨rfl, rfl⟩ : r = false ∧ s' = sA k s := by
        rcases hh with ⟨_, h1, h2⟩ | ⟨h1, _⟩
        · exact ⟨h1, h2⟩
        · rw [sA_ban] at h1; simp at h1
      refine sq_r r_move rfl ?_
      refine sq_r r_move rfl ?_ /- GUARD 3 False -/
      refine sq_r (r_loadN rfl ty28 (kc_len k) (At.of_block (hs.own (i := 0) rfl) (kc_all k))) rfl ?_ /- GUARD 3 False -/
      refine sq_e rfl (o_call (i := 1) cb16 rfl rfl (f16_calls ba mca mba (sA k s) k) hs rfl trivial ?_)
      rintro v c w ⟨rfl, rfl⟩ hs
      have hcnt : cnt (sA k s) k = 0 := by
        unfold cnt
        rw [show mget (sA k s).m k = none from hI.no]
        rfl
      refine sq_r (r_cmp (r := false) rfl rfl (by rw [hcnt]; rfl)) rfl ?_ /- GUARD 3 False -/
      refine sq_r (r_pick rfl) rfl ?_
      refine sq_z ?_
      -- IF ('tmp', 47)
      refine W_cond rfl rfl (fun hc => ?_) (fun hc => ?_)
      · cases hc
      refine W_skip ?_
      refine W_exit ?_ -- 1
      -- region 17
      refine W_region (by decide +kernel) ?_
      refine sq_r (r_add rfl rfl (wrap_small (by omega) (by omega))) rfl ?_
      refine sq_r r_move rfl ?_
      refine sq_z ?_
      exact ⟨i + 1, ⟨_, s, ov_self ⟨rfl, rfl, rfl, rfl, rfl, rfl, trivial⟩, by omega, hI.skip, (hs.mask [true, true, true, false]).cast (by simp [zipMask])⟩, by omega⟩
    · have hne : k ≠ kOf x := fun e => by have := of_decide_eq_false hc; exact this e.symm
      refine W_skip ?_
      refine W_seq ?_
      -- region 15 DRAWS
      refine W_drawM hs Try.mixed [true, false, false, true] [0, 0, 2, 7, 0, 0, 32, 127, 255] [3, 7] [0, 1, 2, 4, 5, 6, 3, 7, 8] (by decide +kernel) ?_
      intro w hs; have hR := hs.mask [true, false, false, true]
      refine dq_r hR rfl rfl rfl (fun _ w _ _ hR => r_move) ?_
      refine dq_r hR rfl rfl rfl (fun _ w _ _ hR => r_field rfl fa48_1) ?_
      refine dq_r hR rfl rfl rfl (fun _ w _ _ hR => r_loadN rfl ty28 (kc_len (kOf x)) (At.of_block (hR.own (i := 3) rfl) (kOf_cells x))) ?_
      refine dq_r hR rfl rfl rfl (fun _ w _ _ hR => r_move) ?_
      refine dq_r hR rfl rfl rfl (fun _ w _ _ hR => r_field rfl fa48_1) ?_
      refine dq_r hR rfl rfl rfl (fun _ w _ _ hR => r_loadN rfl ty28 (kc_len (kOf x)) (At.of_block (hR.own (i := 3) rfl) (kOf_cells x))) ?_
      refine dq_e hR rfl rfl rfl (o_call (i := 1) cb14 rfl rfl (f14_calls ba mca mba (sA k s) (kOf x) hI.sm.wf (hI.sm.hclk (by omega)) (hI.sm.hct (by omega))) hs rfl trivial ?_)
      rintro v c w ⟨r, s', rfl, hh, rfl⟩ hs
      obtain ⟨rfl, rfl⟩ := hI.hitA (by omega) hne hh
      have hR := hs.mask [true, false, false, true]
      refine dq_e hR rfl rfl rfl (o_call (i := 2) cb14 rfl rfl (f14_calls bb mcb mbb s (kOf x) hI.sm.wf (hI.sm.hclk (by omega)) (hI.sm.hct (by omega))) hs rfl trivial ?_)
      rintro v c w ⟨r, s', rfl, hh, rfl⟩ hs
      obtain ⟨rfl, rfl⟩ := hI.hitB (by omega) hh
      have hR := hs.mask [true, false, false, true]
      refine dq_r hR rfl rfl rfl (fun _ w _ _ hR => r_neB Try.underlying4 rfl rfl) ?_
      refine dq_z hR ?_
      -- IF ('tmp', 56)
      refine W_cond rfl rfl (fun hc => ?_) (fun hc => ?_)
      · simp at hc
      refine W_skip ?_
      -- region 17
      refine W_region (by decide +kernel) ?_
      refine sq_r (r_add rfl rfl (wrap_small (by omega) (by omega))) rfl ?_
      refine sq_r r_move rfl ?_
      refine sq_z ?_
      exact ⟨i + 1, ⟨_, _, ov_self ⟨rfl, rfl, rfl, rfl, rfl, rfl, trivial⟩, by omega, hI.next hne, (hs.mask [true, true, true, false]).cast (by simp [zipMask])⟩, by omega⟩
  · refine W_exit ?_ -- 0
    refine W_seq ?_
    -- region 18
    refine W_region (by decide +kernel) ?_
    refine sq_r r_move rfl ?_
    refine sq_r (r_loadN rfl ty28 (kc_len k) (At.of_block (hs.own (i := 0) rfl) (kc_all k))) rfl ?_
    refine sq_e rfl (o_call (i := 1) cb21 rfl rfl (f21_calls ba mca mba (sA k s) k) hs rfl trivial ?_)
    rintro v c w ⟨rfl, rfl⟩ hs
    rw [show isBan (sA k s) k = true from by rw [sA_ban]; simp]
    refine sq_r r_move rfl ?_
    refine sq_r r_move rfl ?_ /- GUARD 3 True -/
    refine sq_e rfl (o_call (i := 1) cb18 rfl rfl (f18_calls ba mca mba (sA k s)) hs rfl trivial ?_)
    rintro v c w ⟨rfl, rfl⟩ hs
    refine sq_r r_move rfl ?_ /- GUARD 3 True -/
    refine sq_e rfl (o_call (i := 2) cb18 rfl rfl (f18_calls bb mcb mbb s) hs rfl trivial ?_)
    rintro v c w ⟨rfl, rfl⟩ hs
    refine sq_r (r_cmp (r := true) rfl rfl (by simp [cmpB, sA])) rfl ?_ /- GUARD 3 True -/
    refine sq_r (r_pick rfl) rfl ?_
    refine sq_r r_assign rfl ?_
    refine sq_z ?_
    refine W_ret ?_
    exact ret1 (v := .bool true) rfl (by decide) rfl (fin (c' := []) hs ⟨rfl, rfl⟩ (by simp))

end Go.Proofs.Ytcdlbgmmogccaaa
