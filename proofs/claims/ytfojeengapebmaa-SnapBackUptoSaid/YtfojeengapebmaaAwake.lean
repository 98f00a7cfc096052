/-
  Layer 17: the chapter's example (awake). No condition.
-/
import Derived.Test.YtfojeengapebmaaLinks
namespace Go.Proofs.Ytfojeengapebmaa
open Go.Eng

theorem Ok7.addF : ∀ (l : List Lk) (s : B7) (up : Int) (m k : Nat), Ok7 s m k → Ok7 (addF s up l).1 (m + l.length) (k + rgn l)
  | [], _, _, _, _, h => by simpa [rgn, Proofs.Ytfojeengapebmaa.addF] using h
  | x :: l, s, up, m, k, h => by
    have := Ok7.addF l (Proofs.Ytfojeengapebmaa.add1 s up x).1 (Proofs.Ytfojeengapebmaa.add1 s up x).2 _ _ (h.add1 up x)
    have e1 : m + (x :: l).length = m + 1 + l.length := by simp; omega
    have e2 : k + rgn (x :: l) = k + x.regs.length + rgn l := by simp [rgn]; omega
    rw [e1, e2]
    exact this
def lF : Lk := ⟨0, 1, 0, 0, []⟩
def lG : Lk := ⟨0, 2, 0, 0, []⟩
def lH : Lk := ⟨0, 3, 0, 0, []⟩
abbrev nilV : Value := .slice none 0 0
def s0 : B7 := ⟨[], ([], 0), ([], 0)⟩
def s1 : B7 := (addF s0 (-1) [lF, lG]).1
def s2 : B7 := (addF s1 (-1) [lF, lH]).1
theorem ok0 : Ok7 s0 0 0 := ⟨Mwf.nil 0, Mwf.nil 0, by simp [s0], by simp [s0]⟩
theorem ok1 : Ok7 s1 2 0 := by
  exact Ok7.addF [lF, lG] s0 (-1) 0 0 ok0
theorem at_1 : (addF s0 (-1) [lF, lG]).2 = 1 := by kernel_rfl
theorem at_2 : (addF s1 (-1) [lF, lH]).2 = 2 := by kernel_rfl
theorem links_2 : s2.links = [⟨-1, 1, 0, 0, []⟩, ⟨0, 2, 0, 0, []⟩, ⟨0, 3, 0, 0, []⟩] := by kernel_rfl
theorem chain_2 : chO s2.links 2 = [0, 2] := by rw [links_2]; kernel_rfl
theorem st_apart {w0 w : World} {F0 : List Nat} {c d : Ck} (hs : St w0 F0 [c, d] w) : ∀ b ∈ ks d, b ∉ ks c := by
  have h := hs.nodup
  have e : ks ([c, d] : List Ck).flatten = ks c ++ ks d := by simp [ks]
  rw [e] at h
  intro b hb hc
  exact (List.nodup_append.1 h).2.2 b hc b hb rfl
theorem rd_two {b : Nat} {w : World} {x y : Lk} {c : Ck} (h : w.heap[b]? = some (cb [lkC x nilV, lkC y nilV].flatten 39)) (hb : b ∉ ks c) (hx : x.regs = [] := by rfl) (hy : y.regs = [] := by rfl) : RdL (· ∉ ks c) (.slice (some ⟨b, 0, none⟩) 2 2) [x, y] w := by
  refine ⟨_, 2, rfl, fun i l hi => ?_⟩
  have hr : ∀ l : Lk, l.regs = [] → RdS (· ∉ ks c) nilV l.regs w := fun l e => by rw [e]; exact ⟨none, 0, rfl, fun i x hi => by simp at hi⟩
  match i, hi with
  | 0, hi => cases hi; exact ⟨b, 0, nilV, rfl, hb, At.of_block h rfl, hr x hx⟩
  | 1, hi => cases hi; exact ⟨b, 0, nilV, rfl, hb, At.of_block h rfl, hr y hy⟩
  | _ + 2, hi => simp at hi

set_option maxRecDepth 20000 in
set_option maxHeartbeats 2000000 in
theorem f7_calls : Ctr Try.prog 7 #[] [] (fun _ => True) (fun v c => v = .bool true ∧ c = []) := by
  intro w0 hp hro
  have hs : St w0 (ks []) [] w0 := St.start w0
  refine calls_W (n := 57) Try.func7 rfl Try.ntmps7 (by simp) ?_
  refine W_seq ?_
  -- region 0
  refine W_region (by decide +kernel) ?_
  refine sq_r r_assign rfl ?_
  refine sq_z ?_
  refine W_seq ?_
  -- region 1
  refine W_region (by decide +kernel) ?_
  refine sq_e rfl (o_call0 cb9 rfl rfl f9_calls hs trivial ?_)
  rintro v c w ⟨bb, c0, rfl, hcp, hb⟩ hs
  have hs : St w0 (ks []) [c0] w := hs.perm hcp
  refine sq_r r_assign rfl ?_
  refine sq_z ?_
  refine W_seq ?_
  refine W_seq ?_
  -- region 2
  refine W_region (by decide +kernel) ?_
  refine sq_r r_move rfl ?_
  refine sq_r (r_eqnil Try.underlying25 rfl rfl) rfl ?_
  refine sq_z ?_
  refine W_cond rfl rfl (fun hz => ?_) (fun hz => ?_)
  · cases hz
  refine W_skip ?_
  refine W_seq ?_
  -- region 4
  refine W_region (by decide +kernel) ?_
  refine sq_r (r_build (v := .agg (lkC lF nilV).toArray) (by kernel_rfl)) rfl ?_
  refine sq_r (r_build (v := .agg (lkC lG nilV).toArray) (by kernel_rfl)) rfl ?_
  refine sq_r (r_build (v := .agg (lkC lH nilV).toArray) (by kernel_rfl)) rfl ?_
  refine sq_e rfl (o_alloc hs ty39 ?_); intro b2 w hs
  refine sq_e rfl (o_alloc hs ty39 ?_); intro b3 w hs
  refine sq_e rfl (o_alloc hs ty39 ?_); intro b4 w hs
  refine sq_e rfl (o_store (i := 1) (vs := lkC lF nilV) hs rfl rfl ty39 rfl (by simp [lkC, Value.oneCell']) (by simp [lkC]) ?_); intro w hs
  refine sq_e rfl (o_store (i := 2) (vs := lkC lG nilV) hs rfl rfl ty39 rfl (by simp [lkC, Value.oneCell']) (by simp [lkC]) ?_); intro w hs
  refine sq_e rfl (o_store (i := 3) (vs := lkC lH nilV) hs rfl rfl ty39 rfl (by simp [lkC, Value.oneCell']) (by simp [lkC]) ?_); intro w hs
  refine sq_z ?_
  have hs : St w0 (ks []) [c0, [(b2, cb (lkC lF nilV) 39)], [(b3, cb (lkC lG nilV) 39)], [(b4, cb (lkC lH nilV) 39)]] w := hs
  refine W_mid (M := fun f w => ∃ g c2, f = ov [(1, .pointer (some ⟨bb, 0, none⟩)), (5, .int .i64 (addF s0 (-1) [lF, lG]).2), (6, .int .i64 (addF s1 (-1) [lF, lH]).2)] g ∧ BK bb s2 c2 ∧ St w0 (ks []) [c2] w) ?_ (fun f w hM => ?_)
  · -- region 5 DRAWS
    refine W_tree hs Try.mixed [false, true, true, true] [0, 0, 0, 6, 15, 0, 0, 0, 192, 511, 1023, 2047] [3, 4, 8, 9]
      (.rd 0 (.rd 1 (.rd 2 (.rd 5 (.rd 6 (.rd 7 (.alt 3 (.alt 4 (.alt 8 (.alt 9 (.rd 10 (.rd 11 .fin)) .no) .no) (.alt 8 (.alt 4 (.alt 9 (.rd 10 (.rd 11 .fin)) .no) .no) .no)) (.alt 8 (.alt 3 (.alt 4 (.alt 9 (.rd 10 (.rd 11 .fin)) .no) .no) .no) .no)))))))) (by decide +kernel) ?_
    intro w hs; have hR := hs.mask [false, true, true, true]
    refine tq_r hR rfl rfl (fun w hR => r_move) ?_
    refine tq_r hR rfl rfl (fun w hR => r_loadN (vs := lkC lF nilV) rfl ty39 rfl (At.of_block (hR.own (i := 1) rfl) rfl)) ?_
    refine tq_r hR rfl rfl (fun w hR => r_loadN (vs := lkC lG nilV) rfl ty39 rfl (At.of_block (hR.own (i := 2) rfl) rfl)) ?_
    refine tq_r hR rfl rfl (fun w hR => r_move) ?_
    refine tq_r hR rfl rfl (fun w hR => r_loadN (vs := lkC lF nilV) rfl ty39 rfl (At.of_block (hR.own (i := 1) rfl) rfl)) ?_
    refine tq_r hR rfl rfl (fun w hR => r_loadN (vs := lkC lH nilV) rfl ty39 rfl (At.of_block (hR.own (i := 3) rfl) rfl)) ?_
    refine tq_or hR rfl rfl ?_ ?_
    · refine o_buildN [.agg (lkC lF nilV).toArray, .agg (lkC lG nilV).toArray] [lkC lF nilV, lkC lG nilV] sl28 ty39 hs rfl rfl rfl (by simp [lkC]) (by simp) ?_; intro b5 w hs
      have hR := hs.mask [false, true, true, true]
      refine tq_or hR rfl rfl ?_ ?_
      · refine o_call (i := 0) cb10 rfl rfl (f10_calls bb s0 c0 _ [lF, lG] 0 0 hb ok0 (by decide) (by decide)) hs rfl (rd_two (b := b5) (hs.own (i := 4) rfl) (st_apart (d := [(b5, cb [lkC lF nilV, lkC lG nilV].flatten 39)]) ((hs.mask [true, false, false, false, true]).cast (by simp [zipMask])) b5 (by simp [ks]))) ?_
        rintro v c1 w ⟨rfl, hb1⟩ hs
        have hR := hs.mask [false, true, true, true]
        refine tq_e hR rfl rfl (o_buildN [.agg (lkC lF nilV).toArray, .agg (lkC lH nilV).toArray] [lkC lF nilV, lkC lH nilV] sl28 ty39 hs rfl rfl rfl (by simp [lkC]) (by simp) ?_); intro b6 w hs
        have hR := hs.mask [false, true, true, true]
        refine tq_e hR rfl rfl (o_call (i := 0) cb10 rfl rfl (f10_calls bb s1 c1 _ [lF, lH] 2 0 hb1 ok1 (by decide) (by decide)) hs rfl (rd_two (b := b6) (hs.own (i := 5) rfl) (st_apart (d := [(b6, cb [lkC lF nilV, lkC lH nilV].flatten 39)]) ((hs.mask [true, false, false, false, false, true]).cast (by simp [zipMask])) b6 (by simp [ks]))) ?_)
        rintro v c2 w ⟨rfl, hb2⟩ hs
        have hR := hs.mask [false, true, true, true]
        refine tq_r hR rfl rfl (fun w hR => r_assign) ?_
        refine tq_r hR rfl rfl (fun w hR => r_assign) ?_
        refine tq_z hR ?_
        exact ⟨_, c2, ov_self ⟨rfl, rfl, rfl, trivial⟩, hb2, hs.keep (by simp)⟩
      · refine tq_e hR rfl rfl (o_buildN [.agg (lkC lF nilV).toArray, .agg (lkC lH nilV).toArray] [lkC lF nilV, lkC lH nilV] sl28 ty39 hs rfl rfl rfl (by simp [lkC]) (by simp) ?_); intro b6 w hs
        have hR := hs.mask [false, true, true, true]
        refine tq_e hR rfl rfl (o_call (i := 0) cb10 rfl rfl (f10_calls bb s0 c0 _ [lF, lG] 0 0 hb ok0 (by decide) (by decide)) hs rfl (rd_two (b := b5) (hs.own (i := 4) rfl) (st_apart (d := [(b5, cb [lkC lF nilV, lkC lG nilV].flatten 39)]) ((hs.mask [true, false, false, false, true, false]).cast (by simp [zipMask])) b5 (by simp [ks]))) ?_)
        rintro v c1 w ⟨rfl, hb1⟩ hs
        have hR := hs.mask [false, true, true, true]
        refine tq_e hR rfl rfl (o_call (i := 0) cb10 rfl rfl (f10_calls bb s1 c1 _ [lF, lH] 2 0 hb1 ok1 (by decide) (by decide)) hs rfl (rd_two (b := b6) (hs.own (i := 5) rfl) (st_apart (d := [(b6, cb [lkC lF nilV, lkC lH nilV].flatten 39)]) ((hs.mask [true, false, false, false, false, true]).cast (by simp [zipMask])) b6 (by simp [ks]))) ?_)
        rintro v c2 w ⟨rfl, hb2⟩ hs
        have hR := hs.mask [false, true, true, true]
        refine tq_r hR rfl rfl (fun w hR => r_assign) ?_
        refine tq_r hR rfl rfl (fun w hR => r_assign) ?_
        refine tq_z hR ?_
        exact ⟨_, c2, ov_self ⟨rfl, rfl, rfl, trivial⟩, hb2, hs.keep (by simp)⟩
    · refine tq_e hR rfl rfl (o_buildN [.agg (lkC lF nilV).toArray, .agg (lkC lH nilV).toArray] [lkC lF nilV, lkC lH nilV] sl28 ty39 hs rfl rfl rfl (by simp [lkC]) (by simp) ?_); intro b6 w hs
      have hR := hs.mask [false, true, true, true]
      refine tq_e hR rfl rfl (o_buildN [.agg (lkC lF nilV).toArray, .agg (lkC lG nilV).toArray] [lkC lF nilV, lkC lG nilV] sl28 ty39 hs rfl rfl rfl (by simp [lkC]) (by simp) ?_); intro b5 w hs
      have hR := hs.mask [false, true, true, true]
      refine tq_e hR rfl rfl (o_call (i := 0) cb10 rfl rfl (f10_calls bb s0 c0 _ [lF, lG] 0 0 hb ok0 (by decide) (by decide)) hs rfl (rd_two (b := b5) (hs.own (i := 5) rfl) (st_apart (d := [(b5, cb [lkC lF nilV, lkC lG nilV].flatten 39)]) ((hs.mask [true, false, false, false, false, true]).cast (by simp [zipMask])) b5 (by simp [ks]))) ?_)
      rintro v c1 w ⟨rfl, hb1⟩ hs
      have hR := hs.mask [false, true, true, true]
      refine tq_e hR rfl rfl (o_call (i := 0) cb10 rfl rfl (f10_calls bb s1 c1 _ [lF, lH] 2 0 hb1 ok1 (by decide) (by decide)) hs rfl (rd_two (b := b6) (hs.own (i := 4) rfl) (st_apart (d := [(b6, cb [lkC lF nilV, lkC lH nilV].flatten 39)]) ((hs.mask [true, false, false, false, true, false]).cast (by simp [zipMask])) b6 (by simp [ks]))) ?_)
      rintro v c2 w ⟨rfl, hb2⟩ hs
      have hR := hs.mask [false, true, true, true]
      refine tq_r hR rfl rfl (fun w hR => r_assign) ?_
      refine tq_r hR rfl rfl (fun w hR => r_assign) ?_
      refine tq_z hR ?_
      exact ⟨_, c2, ov_self ⟨rfl, rfl, rfl, trivial⟩, hb2, hs.keep (by simp)⟩
  obtain ⟨g, c2, rfl, hb2, hs⟩ := hM
  refine W_seq ?_
  -- region 6
  refine W_region (by decide +kernel) ?_
  refine sq_r r_move rfl ?_
  refine sq_e rfl (o_call (i := 0) cb13 rfl rfl (f13_calls bb s2 c2 hb2 (by rw [links_2]; decide) (by rw [links_2]; simp)) hs rfl trivial ?_)
  rintro r c3 w ⟨d, rfl, hd⟩ hs
  refine sq_r r_assign rfl ?_
  refine sq_z ?_
  have hs : St w0 (ks []) [c2, d] w := hs.cast (by simp)
  have hrd := hd w (hs.at (i := 1) rfl)
  obtain ⟨ra, rcap, hr, hall⟩ := id hrd
  rw [links_2] at hr hall
  subst hr
  obtain ⟨b, off, rv1, rfl, _, hat1, _⟩ := hall 1 _ rfl
  obtain ⟨b', off', rv2, e, _, hat2, _⟩ := hall 2 _ rfl
  simp only [Option.some.injEq, Addr.mk.injEq] at e
  obtain ⟨rfl, rfl, _⟩ := e
  refine W_seq ?_
  -- region 7
  refine W_region (by decide +kernel) ?_
  refine sq_r r_move rfl ?_
  refine sq_r (r_cmp (r := true) rfl rfl (by rw [at_1]; rfl)) rfl ?_
  refine sq_r r_move rfl ?_
  refine sq_r r_move rfl ?_
  refine sq_r (r_cmp (r := true) rfl rfl (by rw [at_2]; rfl)) rfl ?_
  refine sq_r (r_pick (b := true) rfl) rfl ?_
  refine sq_r r_move rfl ?_
  refine sq_r r_move rfl ?_
  refine sq_r (r_lenS Try.underlying28 rfl) rfl ?_
  refine sq_r (r_cmp (r := true) rfl rfl rfl) rfl ?_
  refine sq_r (r_pick (b := true) rfl) rfl ?_
  refine sq_r r_move rfl ?_
  refine sq_r r_move rfl ?_
  refine sq_r (r_index rfl rfl sl28 (by decide) (by simp)) rfl ?_
  refine sq_r (r_field rfl fa39_0) rfl ?_
  refine sq_r (r_load1 rfl ty3 (hat1 0 _ rfl)) rfl ?_
  refine sq_r (r_cmp (r := true) rfl rfl rfl) rfl ?_
  refine sq_r (r_pick (b := true) rfl) rfl ?_
  refine sq_r r_move rfl ?_
  refine sq_r r_move rfl ?_
  refine sq_r (r_index rfl rfl sl28 (by decide) (by simp)) rfl ?_
  refine sq_r (r_field rfl fa39_0) rfl ?_
  refine sq_r (r_load1 rfl ty3 (hat2 0 _ rfl)) rfl ?_
  refine sq_r (r_cmp (r := true) rfl rfl rfl) rfl ?_
  refine sq_r (r_pick (b := true) rfl) rfl ?_
  refine sq_r r_move rfl ?_
  refine sq_r r_move rfl ?_
  refine sq_e rfl (o_call0 cb14 rfl rfl (f14_calls _ s2.links 2 (by rw [links_2]; decide)) hs (hrd.mono fun _ _ => trivial) ?_)
  intro u c4 w hu hs
  rw [chain_2] at hu
  obtain ⟨ua, ucap, rfl⟩ := hu.len
  refine sq_r (r_lenS Try.underlying35 rfl) rfl ?_
  refine sq_r (r_cmp (r := true) rfl rfl rfl) rfl ?_
  refine sq_r (r_pick (b := true) rfl) rfl ?_
  refine sq_r r_assign rfl ?_
  refine sq_z ?_
  refine W_ret ?_
  exact ret1 (v := .bool true) rfl (by decide) rfl (fin (c' := []) hs ⟨rfl, rfl⟩ (by simp))

end Go.Proofs.Ytfojeengapebmaa
