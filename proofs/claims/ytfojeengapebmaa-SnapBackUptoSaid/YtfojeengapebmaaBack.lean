/-
  Layer 17: the law SnapBack: links and virtual things come back from the bytes that they were written as, and bytes from what was read of them. Conditions: the numbers are of the size of an int; what came in can be counted by an int.
-/
import Derived.Test.YtfojeengapebmaaShape
import Derived.Test.YtfojeengapebmaaDecode
import Derived.Test.YtfojeengapebmaaVirts
namespace Go.Proofs.Ytfojeengapebmaa
open Go.Eng

theorem okF.mid {x : Sc} (h : okF x) : okS x := ⟨h.2.1, h.2.2.1⟩
theorem rgn_in {l : List Lk} {y : Lk} (h : y ∈ l) : y.regs.length ≤ rgn l := by
  induction l with
  | nil => cases h
  | cons x l ih =>
    simp only [rgn, List.map_cons, List.sum_cons] at ih ⊢
    rcases List.mem_cons.1 h with rfl | h
    · omega
    · have := ih h; omega
theorem cln_mem {l : List Vt} {x : Vt} (h : x ∈ l) : x.cells.length ≤ cln l := by
  induction l with
  | nil => cases h
  | cons y l ih =>
    simp only [cln, List.map_cons, List.sum_cons] at ih ⊢
    rcases List.mem_cons.1 h with rfl | h
    · omega
    · have := ih h; omega
theorem build_tr2 (w : World) (a : Option Addr) (n c : Nat) (a' : Option Addr) (n' c' : Nat) : (Instr.build 51 #[(5, .slice a n c), (6, .slice a' n' c')]).run Try.prog w = .ok (.agg (trC (.slice a n c) (.slice a' n' c')).toArray) w := by kernel_rfl

set_option maxRecDepth 20000 in
set_option maxHeartbeats 4000000 in
theorem f6_law (lv vv bv : Value) (ls : List Lk) (vs : List Vt) (l : List Int) (hl64 : ∀ x ∈ ls, okL x) (hv64 : ∀ x ∈ vs, okV x) (hlB : isB l) (hbig : ls.length + vs.length + rgn ls + cln vs ≤ 4000000000000000000) :
    Ctr Try.prog 6 #[lv, vv, bv] [] (fun w => RdL (· < w.heap.size) lv ls w ∧ RdV (· < w.heap.size) vv vs w ∧ RB (· < w.heap.size) bv l w) (fun v c => v = .bool true ∧ c = []) := by
  intro w0 hp hro
  have hs : St w0 (ks []) [] w0 := St.start w0
  obtain ⟨hrl0, hrv0, hrb0⟩ := hro
  have hrl : ∀ {w : World} {cs : List Ck}, St w0 (ks []) cs w → RdL (fun _ => True) lv ls w := fun hs => (hrl0.keep hs (by simp [ks])).mono fun _ _ => trivial
  have hrv : ∀ {w : World} {cs : List Ck}, St w0 (ks []) cs w → RdV (fun _ => True) vv vs w := fun hs => (hrv0.keep hs (by simp [ks])).mono fun _ _ => trivial
  have hrb : ∀ {w : World} {cs : List Ck}, St w0 (ks []) cs w → RB (fun _ => True) bv l w := fun hs => (hrb0.keep hs (by simp [ks])).mono fun _ _ => trivial
  obtain ⟨la, lcap, rfl, _⟩ := hrl0
  obtain ⟨va, vcap, rfl, _⟩ := hrv0
  obtain ⟨ba, bcap, rfl, _⟩ := hrb0
  refine calls_W (n := 84) Try.func6 rfl Try.ntmps6 (by simp) ?_
  refine W_seq ?_
  -- region 0
  refine W_region (by decide +kernel) ?_
  refine sq_r r_assign rfl ?_
  refine sq_z ?_
  refine W_seq ?_
  refine W_seq ?_
  -- region 1
  refine W_region (by decide +kernel) ?_
  refine sq_e rfl (o_callN cb7 rfl rfl (Post := fun v _ => v = .bool true) f7_calls hs trivial ?_)
  rintro v w rfl hs
  refine sq_r (r_not rfl) rfl ?_
  refine sq_z ?_
  refine W_cond rfl rfl (fun hc => ?_) (fun hc => ?_)
  · cases hc
  refine W_skip ?_
  refine W_mid (M := fun f w => ∃ g, f = ov [(0, .slice la ls.length lcap), (1, .slice va vs.length vcap), (2, .slice ba l.length bcap)] g ∧ ls.length + vs.length + rgn ls + cln vs ≤ 1000 ∧ l.length ≤ 3000 ∧ St w0 (ks []) [] w) ?_ (fun f w hM => ?_)
  · refine W_seq ?_
    -- region 3
    refine W_region (by decide +kernel) ?_
    refine sq_r r_move rfl ?_
    refine sq_r r_move rfl ?_
    refine sq_r (r_buildL (ps := [(5, .slice la ls.length lcap), (6, .slice va vs.length vcap)]) rfl (build_tr2 _ _ _ _ _ _ _)) rfl ?_
    refine sq_e rfl (o_callN cb16 rfl rfl (Post := fun r _ => r = .int .i64 ((ls.length + vs.length + rgn ls + cln vs : Nat) : Int)) (f16_calls (.slice la ls.length lcap) (.slice va vs.length vcap) ls vs (fun _ => True) hbig) hs ⟨hrl hs, hrv hs⟩ ?_)
    rintro r w rfl hs
    by_cases hsum : ls.length + vs.length + rgn ls + cln vs ≤ 1000
    · refine sq_r (r_cmp (r := false) rfl rfl (by simp [cmpB]; omega)) rfl ?_
      refine sq_r r_move rfl ?_
      refine sq_r r_move rfl ?_
      refine sq_r (r_lenS Try.underlying42 rfl) rfl ?_
      by_cases hlen : l.length ≤ 3000
      · refine sq_r (r_cmp (r := false) rfl rfl (by simp [cmpB]; omega)) rfl ?_
        refine sq_r (r_pick (b := false) rfl) rfl ?_
        refine sq_z ?_
        refine W_cond rfl rfl (fun hc => ?_) (fun hc => ?_)
        · cases hc
        refine W_skip ?_
        exact ⟨_, ov_self ⟨rfl, rfl, rfl, trivial⟩, hsum, hlen, hs⟩
      · refine sq_r (r_cmp (r := true) rfl rfl (by simp [cmpB]; omega)) rfl ?_
        refine sq_r (r_pick (b := false) rfl) rfl ?_
        refine sq_z ?_
        refine W_cond rfl rfl (fun hc => ?_) (fun hc => ?_)
        · refine W_seq ?_
          -- region 4
          refine W_region (by decide +kernel) ?_
          refine sq_r r_assign rfl ?_
          refine sq_z ?_
          refine W_ret ?_
          repeat with_reducible first | refine thenQ_ret ?_ | refine blockQ_ret ?_
          exact ret1 (v := .bool true) rfl (by decide) rfl (fin (c' := []) hs ⟨rfl, rfl⟩ (by simp))
        · cases hc
    · refine sq_r (r_cmp (r := true) rfl rfl (by simp [cmpB]; omega)) rfl ?_
      refine sq_r r_move rfl ?_
      refine sq_n rfl ?_
      refine sq_n rfl ?_
      refine sq_n rfl ?_
      refine sq_r (r_pick (b := true) rfl) rfl ?_
      refine sq_z ?_
      refine W_cond rfl rfl (fun hc => ?_) (fun hc => ?_)
      · refine W_seq ?_
        -- region 4
        refine W_region (by decide +kernel) ?_
        refine sq_r r_assign rfl ?_
        refine sq_z ?_
        refine W_ret ?_
        repeat with_reducible first | refine thenQ_ret ?_ | refine blockQ_ret ?_
        exact ret1 (v := .bool true) rfl (by decide) rfl (fin (c' := []) hs ⟨rfl, rfl⟩ (by simp))
      · cases hc
  clear hs
  obtain ⟨g, rfl, hsum, hlen, hs⟩ := hM
  refine W_seq ?_
  -- region 5
  refine W_region (by decide +kernel) ?_
  refine sq_r r_move rfl ?_
  refine sq_r r_move rfl ?_
  refine sq_e rfl (o_call0 cb17 rfl rfl (f17_calls (.slice la ls.length lcap) (.slice va vs.length vcap) ls vs hl64 hv64 (by omega)) hs ⟨hrl hs, hrv hs⟩ ?_)
  intro r d w hr hs
  have hs : St w0 (ks []) [d] w := hs
  obtain ⟨y, k, rfl, hy⟩ : ∃ y k, r = .tuple #[y, .int .i64 k] ∧ (k = 0 → ∃ o, eAll ls vs = some o ∧ Sl 5 1 y o.length (by8 o) d) := by
    rcases hr with ⟨o, y, h1, h2, h3⟩ | ⟨k, h1, h2, _, _⟩
    · exact ⟨y, 0, h2, fun _ => ⟨o, h1, h3⟩⟩
    · exact ⟨_, k, h2, fun e => absurd e h1⟩
  refine sq_r r_move rfl ?_
  refine sq_r (r_extract rfl rfl) rfl ?_
  refine sq_r (r_extract rfl rfl) rfl ?_
  refine sq_r r_assign rfl ?_
  refine sq_r r_assign rfl ?_
  refine sq_z ?_
  refine W_mid (M := fun f w => ∃ g ds, f = ov [(2, .slice ba l.length bcap)] g ∧ St w0 (ks []) ds w) ?_ (fun f w hM => ?_)
  · refine W_seq ?_
    -- region 6
    refine W_region (by decide +kernel) ?_
    refine sq_r r_move rfl ?_
    by_cases hk : k = 0
    rotate_left
    · refine sq_r (r_cmp (r := false) rfl rfl (by simp [cmpB, hk])) rfl ?_
      refine sq_z ?_
      refine W_cond rfl rfl (fun hc => ?_) (fun hc => ?_)
      · cases hc
      refine W_skip ?_
      exact ⟨_, [d], ov_self ⟨rfl, trivial⟩, hs⟩
    obtain ⟨o, heo, hsl⟩ := hy hk
    subst hk
    refine sq_r (r_cmp (r := true) rfl rfl (by simp [cmpB])) rfl ?_
    refine sq_z ?_
    refine W_cond rfl rfl (fun hc => ?_) (fun hc => ?_)
    rotate_left
    · cases hc
    have hol := eAll_len hl64 hv64 heo
    have hdo := all_fw (fun x hx s hs => ((hl64 x hx).2.2.2.2 s hs).mid) (fun x hx s hs => ((hv64 x hx).2 s hs).mid) heo
    refine W_seq ?_
    -- region 7
    refine W_region (by decide +kernel) ?_
    refine sq_r r_move rfl ?_
    refine sq_e rfl (o_call0 cb18 rfl rfl (f18_calls y o (eAll_isB heo) (by omega)) hs ((mk_rb hsl (hs.at (i := 0) rfl)).mono fun _ _ => trivial) ?_)
    intro r d2 w hr hs
    rcases hr with ⟨ps, qs, lv2, vv2, lc, dc, vc, ec, hda, hsz, hsl2, hrg, hsv, hrv2, rfl, rfl⟩ | ⟨k, _, _, hbad, _⟩
    rotate_left
    · rw [hdo] at hbad; cases hbad
    rw [hdo] at hda
    simp only [Option.some.injEq, Prod.mk.injEq] at hda
    obtain ⟨hps, hqs⟩ := hda
    have hs : St w0 (ks []) [d, lc ++ dc, vc ++ ec] w := hs.cast (by simp)
    have hL2 : ∀ {w : World}, St w0 (ks []) [d, lc ++ dc, vc ++ ec] w → RdL (fun _ => True) lv2 ls w := fun hs => by
      rw [hps]; exact (mk_rdl hsl2 hrg (hs.at (i := 1) rfl)).mono fun _ _ => trivial
    have hV2 : ∀ {w : World}, St w0 (ks []) [d, lc ++ dc, vc ++ ec] w → RdV (fun _ => True) vv2 vs w := fun hs => by
      rw [hqs]; exact (mk_rdv hsv hrv2 (hs.at (i := 2) rfl)).mono fun _ _ => trivial
    refine sq_r r_move rfl ?_
    refine sq_r (r_extract rfl rfl) rfl ?_
    refine sq_r (r_extract rfl rfl) rfl ?_
    refine sq_r (r_extract rfl rfl) rfl ?_
    refine sq_r r_assign rfl ?_
    refine sq_r r_assign rfl ?_
    refine sq_r r_assign rfl ?_
    refine sq_z ?_
    refine W_seq ?_
    -- region 8
    refine W_region (by decide +kernel) ?_
    refine sq_r r_move rfl ?_
    refine sq_r (r_cmp (r := false) rfl rfl (by simp [cmpB])) rfl ?_
    refine sq_r r_move rfl ?_
    refine sq_r r_move rfl ?_
    refine sq_r r_move rfl ?_
    refine sq_e rfl (o_callN cb12 rfl rfl (Post := fun r _ => ∃ b, r = .bool b ∧ (b = true ↔ ls = ls)) (f12_calls (.slice la ls.length lcap) lv2 ls ls (fun _ => True) (by omega) (fun x hx => by have := rgn_in hx; omega)) hs ⟨hrl hs, hL2 hs⟩ ?_)
    rintro r w ⟨b, rfl, hb⟩ hs
    obtain rfl : b = true := hb.2 rfl
    refine sq_r (r_not rfl) rfl ?_
    refine sq_r (r_pick (b := false) rfl) rfl ?_
    refine sq_r r_move rfl ?_
    refine sq_r r_move rfl ?_
    refine sq_r r_move rfl ?_
    refine sq_e rfl (o_callN cb19 rfl rfl (Post := fun r _ => r = .bool true) (f19_calls (.slice va vs.length vcap) vv2 vs (by omega) (fun x hx => by have := cln_mem hx; omega)) hs ⟨hrv hs, hV2 hs⟩ ?_)
    rintro r w rfl hs
    refine sq_r (r_not rfl) rfl ?_
    refine sq_r (r_pick (b := false) rfl) rfl ?_
    refine sq_z ?_
    refine W_cond rfl rfl (fun hc => ?_) (fun hc => ?_)
    · cases hc
    refine W_skip ?_
    exact ⟨_, _, ov_self ⟨rfl, trivial⟩, hs⟩
  clear hs
  obtain ⟨g, ds, rfl, hs⟩ := hM
  refine W_seq ?_
  -- region 10
  refine W_region (by decide +kernel) ?_
  refine sq_r r_move rfl ?_
  refine sq_e rfl (o_call0 cb18 rfl rfl (f18_calls (.slice ba l.length bcap) l hlB (by omega)) hs (hrb hs) ?_)
  intro r d2 w hr hs
  rcases hr with ⟨ps, qs, lv2, vv2, lc, dc, vc, ec, hda, hsz, hsl2, hrg, hsv, hrv2, rfl, rfl⟩ | ⟨k, hk, rfl, _, rfl⟩
  · have hs : St w0 (ks []) [ds.flatten, lc ++ dc, vc ++ ec] w := hs.cast (by simp)
    obtain ⟨hl2, hv2⟩ := dAll_ok hlB hda
    have heo := all_bw hlB hda
    refine sq_r r_move rfl ?_
    refine sq_r (r_extract rfl rfl) rfl ?_
    refine sq_r (r_extract rfl rfl) rfl ?_
    refine sq_r (r_extract rfl rfl) rfl ?_
    refine sq_r r_assign rfl ?_
    refine sq_r r_assign rfl ?_
    refine sq_r r_assign rfl ?_
    refine sq_z ?_
    refine W_seq ?_
    refine W_seq ?_
    -- region 11
    refine W_region (by decide +kernel) ?_
    refine sq_r r_move rfl ?_
    refine sq_r (r_cmp (r := false) rfl rfl (by simp [cmpB])) rfl ?_
    refine sq_z ?_
    refine W_cond rfl rfl (fun hc => ?_) (fun hc => ?_)
    · cases hc
    refine W_skip ?_
    refine W_seq ?_
    -- region 13
    refine W_region (by decide +kernel) ?_
    refine sq_r r_move rfl ?_
    refine sq_r r_move rfl ?_
    refine sq_e rfl (o_call0 cb17 rfl rfl (f17_calls lv2 vv2 (ps.map (·.1)) (qs.map (·.1)) hl2 hv2 (by simp only [List.length_map]; omega)) hs ⟨(mk_rdl hsl2 hrg (hs.at (i := 1) rfl)).mono fun _ _ => trivial, (mk_rdv hsv hrv2 (hs.at (i := 2) rfl)).mono fun _ _ => trivial⟩ ?_)
    intro r d3 w hr hs
    rcases hr with ⟨o, y2, he2, rfl, hsl3⟩ | ⟨k, _, _, hbad, _⟩
    rotate_left
    · rw [heo] at hbad; cases hbad
    obtain rfl : l = o := by rw [heo] at he2; exact Option.some.inj he2
    have hs : St w0 (ks []) [ds.flatten, lc ++ dc, vc ++ ec, d3] w := hs
    refine sq_r r_move rfl ?_
    refine sq_r (r_extract rfl rfl) rfl ?_
    refine sq_r (r_extract rfl rfl) rfl ?_
    refine sq_r r_assign rfl ?_
    refine sq_r r_assign rfl ?_
    refine sq_z ?_
    refine W_seq ?_
    -- region 14
    refine W_region (by decide +kernel) ?_
    refine sq_r r_move rfl ?_
    refine sq_r (r_cmp (r := true) rfl rfl (by simp [cmpB])) rfl ?_
    refine sq_r r_move rfl ?_
    refine sq_r r_move rfl ?_
    refine sq_r (r_text rfl (mk_rb hsl3 (hs.at (i := 3) rfl))) rfl ?_
    refine sq_r r_move rfl ?_
    refine sq_r (r_text rfl (hrb hs)) rfl ?_
    refine sq_r (r_eqText rfl rfl) rfl ?_
    refine sq_r (r_pick (b := true) rfl) rfl ?_
    refine sq_r r_assign rfl ?_
    refine sq_z ?_
    refine W_ret ?_
    exact ret1 (v := .bool true) rfl (by decide) rfl (fin (c' := []) hs ⟨rfl, rfl⟩ (by simp))
  · refine sq_r r_move rfl ?_
    refine sq_r (r_extract rfl rfl) rfl ?_
    refine sq_r (r_extract rfl rfl) rfl ?_
    refine sq_r (r_extract rfl rfl) rfl ?_
    refine sq_r r_assign rfl ?_
    refine sq_r r_assign rfl ?_
    refine sq_r r_assign rfl ?_
    refine sq_z ?_
    refine W_seq ?_
    refine W_seq ?_
    -- region 11
    refine W_region (by decide +kernel) ?_
    refine sq_r r_move rfl ?_
    refine sq_r (r_cmp (r := true) rfl rfl (by simp [cmpB, hk])) rfl ?_
    refine sq_z ?_
    refine W_cond rfl rfl (fun hc => ?_) (fun hc => ?_)
    rotate_left
    · cases hc
    refine W_seq ?_
    -- region 12
    refine W_region (by decide +kernel) ?_
    refine sq_r r_move rfl ?_
    refine sq_r (r_lenS Try.underlying28 rfl) rfl ?_
    refine sq_r r_move rfl ?_
    refine sq_r (r_lenS Try.underlying41 rfl) rfl ?_
    refine sq_r (r_add (c := 0) rfl rfl (by decide)) rfl ?_
    refine sq_r (r_cmp (r := true) rfl rfl (by simp [cmpB])) rfl ?_
    refine sq_r r_assign rfl ?_
    refine sq_z ?_
    refine W_ret ?_
    repeat with_reducible first | refine thenQ_ret ?_ | refine blockQ_ret ?_
    exact ret1 (v := .bool true) rfl (by decide) rfl (fin (c' := []) hs ⟨rfl, rfl⟩ (by simp))

end Go.Proofs.Ytfojeengapebmaa
