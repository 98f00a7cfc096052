/-
  Layer 15: the document's cache: a trace is taken in (Put). Conditions: the cache is whole.
-/
import Derived.Test.YtddhdoncjfgfnaaRefC
namespace Go.Proofs.Ytddhdoncjfgfnaa
open Go.Eng

theorem goneR_le {r : R15} {i : Nat} {id : Int} (h : i < r.rows.length) : (goneR r i id).rows.length + 1 = r.rows.length ∧ (goneR r i id).notes.length ≤ r.notes.length := by
  refine ⟨?_, List.length_filterMap_le _ _⟩
  simp only [goneR, List.length_append, List.length_take, List.length_drop]
  omega
theorem dropR_le (r : R15) (k : Ky) : (dropR r k).rows.length ≤ r.rows.length ∧ (dropR r k).notes.length ≤ r.notes.length ∧ (dropR r k).limit = r.limit ∧ (dropR r k).picks = r.picks ∧ (dropR r k).last = r.last ∧ (dropR r k).used = r.used ∧ (dropR r k).top = r.top := by
  rcases rfind_cases r k with ⟨_, h, _⟩ | ⟨i, p, _, h1, h2, _⟩
  · rw [h]; exact ⟨Nat.le_refl _, Nat.le_refl _, rfl, rfl, rfl, rfl, rfl⟩
  · rw [h2]
    have := goneR_le (r := r) (id := p.1) (List.getElem?_eq_some_iff.1 h1).1
    exact ⟨by omega, this.2, rfl, rfl, rfl, rfl, rfl⟩
def rpick1 (r : R15) : Int := (r.picks[r.used]?).getD 0
def rpickN (r : R15) : Int := if (rpick1 r).tmod r.rows.length < 0 then (rpick1 r).tmod r.rows.length + r.rows.length else (rpick1 r).tmod r.rows.length
def rused (r : R15) : R15 := if r.used < r.picks.length then { r with used := r.used + 1 } else r
def revK (r : R15) : R15 := goneR (rused r) (rpickN r).toNat ((r.rows[(rpickN r).toNat]?).getD (0, zLT)).1
def rev1 (r : R15) : R15 := if r.limit ≤ r.rows.length then revK r else r
def addR (r : R15) (x : LT) : R15 := { r with rows := r.rows ++ [(r.last + 1, x)], last := r.last + 1, top := max r.top (r.rows.length + 1) }
def rputS (r : R15) (x : LT) : R15 := if r.limit = 0 then r else addR (rev1 (dropR r x.key)) x
def rputN (r : R15) : Int := if r.limit = 0 then -1 else r.last + 1
theorem rpickN_rng {r : R15} (h : 0 < r.rows.length) : 0 ≤ rpickN r ∧ rpickN r < r.rows.length := by
  have h1 := Int.tmod_lt_of_pos (rpick1 r) (b := r.rows.length) (by omega)
  have h2 := Int.lt_tmod_of_pos (rpick1 r) (b := r.rows.length) (by omega)
  unfold rpickN
  split <;> omega
theorem rused_eq (r : R15) : (rused r).rows = r.rows ∧ (rused r).notes = r.notes ∧ (rused r).limit = r.limit ∧ (rused r).picks = r.picks ∧ (rused r).last = r.last ∧ (rused r).top = r.top := by
  unfold rused
  split <;> exact ⟨rfl, rfl, rfl, rfl, rfl, rfl⟩
theorem revK_eq (r : R15) : (revK r).limit = r.limit ∧ (revK r).picks = r.picks ∧ (revK r).last = r.last ∧ (revK r).top = r.top := by
  have h := rused_eq r
  exact ⟨h.2.2.1, h.2.2.2.1, h.2.2.2.2.1, h.2.2.2.2.2⟩
theorem revK_le {r : R15} (h : 0 < r.rows.length) : (revK r).rows.length + 1 = r.rows.length ∧ (revK r).notes.length ≤ r.notes.length := by
  have hr := rpickN_rng h
  have e := rused_eq r
  have := goneR_le (r := rused r) (i := (rpickN r).toNat) (id := ((r.rows[(rpickN r).toNat]?).getD (0, zLT)).1) (by rw [e.1]; omega)
  rw [e.1, e.2.1] at this
  exact this
theorem key10 (k : Ky) : ∃ a b c d e f g h i j, k.toList = [a, b, c, d, e, f, g, h, i, j] := by
  have h : k.toList.length = 10 := by simp
  match hk : k.toList, h with
  | [a, b, c, d, e, f, g, h, i, j], _ => exact ⟨a, b, c, d, e, f, g, h, i, j, rfl⟩
theorem build_row' (w : World) (l a b c d e f g h i j fn pc : Int) (vi vo vl vv vb : Value) : (Instr.build 60 #[(0, .int .i64 l), (1, .agg (ic [a, b, c, d, e, f, g, h, i, j] ++ [.int .i64 fn, .int .i64 pc, vi, vo, vl, vv, vb]).toArray)]).run Try.prog w = .ok (.agg (.int .i64 l :: (ic [a, b, c, d, e, f, g, h, i, j] ++ [.int .i64 fn, .int .i64 pc, vi, vo, vl, vv, vb])).toArray) w := by kernel_rfl
theorem build_row (w : World) (l : Int) (x : LT) : (Instr.build 60 #[(0, .int .i64 l), (1, evT x)]).run Try.prog w = .ok (.agg (rowC (l, x)).toArray) w := by
  obtain ⟨a, b, c, d, e, f, g, h, i, j, hk⟩ := key10 x.key
  simp only [evT, rowC, trC, hk]
  exact build_row' w l a b c d e f g h i j x.fn x.pc x.vi x.vo x.vl x.vv x.vb

set_option maxRecDepth 20000 in
set_option maxHeartbeats 4000000 in
theorem f29_calls (rb : Nat) (pa : Option Addr) (pn pcap : Nat) (r : R15) (c : Ck) (hc : RK rb (.slice pa pn pcap) r c) (hlim : 0 ≤ r.limit ∧ r.limit ≤ 1000) (hlen : (r.rows.length : Int) ≤ r.limit) (hnl : r.notes.length ≤ 4000000000000) (hlast : 0 ≤ r.last ∧ r.last ≤ 4000000000000000000) (hpl : r.picks.length ≤ 17592186043904) (hul : r.used ≤ r.picks.length) (x : LT) (hx1 : ∀ u ∈ trC x, u.oneCell' = true) :
    Ctr Try.prog 29 #[.pointer (some ⟨rb, 0, none⟩), evT x] c (RdG 1 iF (· ∉ ks c) (.slice pa pn pcap) r.picks) (fun v c' => v = .int .i64 (rputN r) ∧ RK rb (.slice pa pn pcap) (rputS r x) c') := by
  intro w0 hp hro
  have hmax : 20000000000000 ≤ maxLen := by decide +kernel
  have hs : St w0 (ks c) [c] w0 := hp.st
  obtain ⟨a0, cap0, hpv0⟩ := hro.len
  have hpn : pn = r.picks.length := by simp only [Value.slice.injEq] at hpv0; exact hpv0.2.1
  have hBc : ∀ {rv nv : Value} {rc nc c' : Ck} {r' : R15} {w : World}, c' = [(rb, cb (rbx rv nv (.slice pa pn pcap) r') 58)] ++ (rc ++ nc) → Hp c' w → w.heap[rb]? = some (cb (rbx rv nv (.slice pa pn pcap) r') 58) := fun {rv nv rc nc c' r' w} e h => h.has (rb, cb (rbx rv nv (.slice pa pn pcap) r') 58) (by rw [e]; simp)
  refine calls_W (n := 116) Try.func29 rfl Try.ntmps29 (by simp) ?_
  refine W_seq ?_
  -- region 0
  refine W_region (by decide +kernel) ?_
  refine sq_e rfl (o_box (cs := trC x) hs rfl ?_); intro b3 w hs
  refine sq_r r_assign rfl ?_
  refine sq_z ?_
  have hs : St w0 (ks c) [c, [(b3, cb (trC x) 33)]] w := hs
  refine W_seq ?_
  refine W_mid (M := fun f w => ∃ g, f = ov [(0, .pointer (some ⟨rb, 0, none⟩)), (3, .pointer (some ⟨b3, 0, none⟩)), (11, .bool (r.limit == 0))] g ∧ St w0 (ks c) [c, [(b3, cb (trC x) 33)]] w) ?_ (fun f w hM => ?_)
  · -- region 1
    have hc0 := hc
    obtain ⟨rv, nv, rc, nc, hce, _⟩ := hc0
    refine W_region (by decide +kernel) ?_
    refine sq_r r_move rfl ?_
    refine sq_r (r_nilCheck rfl) rfl ?_
    refine sq_r (r_field rfl fa58_2) rfl ?_
    refine sq_r (r_load1 rfl ty3 (At.one (v := .int .i64 r.limit) (hBc hce (hs.at (i := 0) rfl)) rfl)) rfl ?_
    refine sq_r (r_cmp rfl rfl rfl) rfl ?_
    refine sq_z ?_
    exact ⟨_, ov_self ⟨rfl, rfl, rfl, trivial⟩, hs⟩
  obtain ⟨g, rfl, hs⟩ := hM
  refine W_cond rfl rfl (fun hz => ?_) (fun hz => ?_)
  · have hz : r.limit = 0 := by simpa using hz
    refine W_seq ?_
    -- region 2
    refine W_region (by decide +kernel) ?_
    refine sq_r r_assign rfl ?_
    refine sq_z ?_
    refine W_ret ?_
    repeat with_reducible first | refine thenQ_ret ?_ | refine blockQ_ret ?_
    exact ret1 (v := .int .i64 (-1)) rfl (by decide) rfl (fin (c' := c) hs ⟨by rw [rputN, if_pos hz], by rw [rputS, if_pos hz]; exact hc⟩ (by simp))
  have hz : r.limit ≠ 0 := by simpa using hz
  refine W_skip ?_
  refine W_mid (M := fun f w => ∃ g c1, f = ov [(0, .pointer (some ⟨rb, 0, none⟩)), (3, .pointer (some ⟨b3, 0, none⟩))] g ∧ RK rb (.slice pa pn pcap) (dropR r x.key) c1 ∧ St w0 (ks c) [c1, [(b3, cb (trC x) 33)]] w) ?_ (fun f w hM => ?_)
  · refine W_seq ?_
    -- region 3
    refine W_region (by decide +kernel) ?_
    refine sq_r r_move rfl ?_
    refine sq_r (r_field rfl fa33_0) rfl ?_
    refine sq_r (r_loadN (vs := ic x.key.toList) rfl ty26 (by simp) (At.of_block (hs.own (i := 1) rfl) (by simpa using trC_key x))) rfl ?_
    refine sq_e rfl (o_callN cb44 rfl rfl (Post := fun v _ => v = .int .i64 (rfind r x.key)) (f44_calls rb (.slice pa pn pcap) r c hc x.key (by omega)) hs (hs.at (i := 0) rfl) ?_)
    rintro u w rfl hs
    refine sq_r r_assign rfl ?_
    refine sq_z ?_
    refine W_seq ?_
    -- region 4
    refine W_region (by decide +kernel) ?_
    refine sq_r r_move rfl ?_
    refine sq_r (r_cmp rfl rfl rfl) rfl ?_
    refine sq_z ?_
    rcases rfind_cases r x.key with ⟨h1, h2, _⟩ | ⟨i, p, h1, h2, h3, _⟩
    · rw [h1]
      refine W_cond rfl rfl (fun hg => ?_) (fun hg => ?_)
      · cases hg
      · refine W_skip ?_
        exact ⟨_, c, ov_self ⟨rfl, rfl, trivial⟩, by rw [h2]; exact hc, hs⟩
    · rw [h1]
      refine W_cond rfl rfl (fun hg => ?_) (fun hg => ?_)
      · -- region 5
        refine W_region (by decide +kernel) ?_
        refine sq_r r_move rfl ?_
        refine sq_r r_move rfl ?_
        refine sq_e rfl (o_call (i := 0) cb45 rfl rfl (f45_calls rb (.slice pa pn pcap) r c hc i p h2 (by omega) hnl) hs rfl trivial ?_)
        intro u c1 w hb1 hs
        refine sq_z ?_
        exact ⟨_, c1, ov_self ⟨rfl, rfl, trivial⟩, by rw [h3]; exact hb1, hs⟩
      · exact absurd (of_decide_eq_false hg) (by omega)
  obtain ⟨g, c1, rfl, hb1, hs⟩ := hM
  have hd := dropR_le r x.key
  obtain ⟨r1, hr1e⟩ : ∃ r1, r1 = dropR r x.key := ⟨_, rfl⟩
  rw [← hr1e] at hb1 hd
  obtain ⟨d1, d2, d3, d4, d5, d6, d7⟩ := hd
  refine W_mid (M := fun f w => ∃ g c2, f = ov [(0, .pointer (some ⟨rb, 0, none⟩)), (3, .pointer (some ⟨b3, 0, none⟩))] g ∧ RK rb (.slice pa pn pcap) (rev1 r1) c2 ∧ St w0 (ks c) [c2, [(b3, cb (trC x) 33)]] w) ?_ (fun f w hM => ?_)
  · refine W_block ?_ -- 0
    -- LOOP
    refine W_loop (fun (r2 : R15) f w => ∃ g c2, f = ov [(0, .pointer (some ⟨rb, 0, none⟩)), (3, .pointer (some ⟨b3, 0, none⟩))] g ∧ (r2 = r1 ∨ (r2 = revK r1 ∧ r1.limit ≤ r1.rows.length)) ∧ RK rb (.slice pa pn pcap) r2 c2 ∧ St w0 (ks c) [c2, [(b3, cb (trC x) 33)]] w) (fun r2 => r2.rows.length) r1 ?_ ?_
    · exact ⟨_, c1, ov_self ⟨rfl, rfl, trivial⟩, .inl rfl, hb1, hs⟩
    clear hs hb1
    rintro r2 f w ⟨g, c2, rfl, hor, hb2, hs⟩
    have hb2' := hb2
    obtain ⟨rv, nv, rc, nc, hce, hrs, hns, hr1⟩ := hb2'
    obtain ⟨ra, rcap, rfl⟩ := hrs.len
    obtain ⟨na, ncap, rfl⟩ := hns.len
    have hl2 : r2.limit = r.limit ∧ r2.picks = r.picks := by
      rcases hor with rfl | ⟨rfl, _⟩
      · exact ⟨d3, d4⟩
      · have := revK_eq r1; exact ⟨by rw [this.1, d3], by rw [this.2.1, d4]⟩
    refine W_seq ?_
    refine W_seq ?_
    -- region 6 DRAWS
    refine W_drawM hs Try.mixed [true, true] [0, 1, 3, 7, 15, 0, 32, 96, 224, 511] [] [0, 1, 2, 3, 4, 5, 6, 7, 8, 9] (by decide +kernel) ?_
    intro w hs; have hR := hs.mask [true, true]
    refine dq_r hR rfl rfl rfl (fun _ w _ _ hR => r_move) ?_
    refine dq_r hR rfl rfl rfl (fun _ w _ _ hR => r_nilCheck rfl) ?_
    refine dq_r hR rfl rfl rfl (fun _ w _ _ hR => r_field rfl fa58_0) ?_
    refine dq_r hR rfl rfl rfl (fun _ w _ _ hR => r_load1 rfl ty55 (At.one (hBc hce (hR.at (i := 0) rfl)) rfl)) ?_
    refine dq_r hR rfl rfl rfl (fun _ w _ _ hR => r_lenS Try.underlying55 rfl) ?_
    refine dq_r hR rfl rfl rfl (fun _ w _ _ hR => r_move) ?_
    refine dq_r hR rfl rfl rfl (fun _ w _ _ hR => r_nilCheck rfl) ?_
    refine dq_r hR rfl rfl rfl (fun _ w _ _ hR => r_field rfl fa58_2) ?_
    refine dq_r hR rfl rfl rfl (fun _ w _ _ hR => r_load1 rfl ty3 (At.one (v := .int .i64 r2.limit) (hBc hce (hR.at (i := 0) rfl)) rfl)) ?_
    refine dq_r hR rfl rfl rfl (fun _ w _ _ hR => r_cmp rfl rfl rfl) ?_
    refine dq_z hR ?_
    refine W_cond rfl rfl (fun hd => ?_) (fun hd => ?_)
    · have hfull : r2.limit ≤ r2.rows.length := of_decide_eq_true hd
      have hno : r2 = r1 := by
        rcases hor with h | ⟨h, hf⟩
        · exact h
        · exfalso
          have := revK_le (r := r1) (by omega)
          have := (revK_eq r1).1
          rw [h] at hfull
          omega
      have hl0 : 0 < r2.rows.length := by omega
      have hrl : r2.rows.length ≤ 1000 := by rw [hno]; omega
      have hnl2 : r2.notes.length ≤ 4000000000000 := by rw [hno]; omega
      have hu2 : r2.used ≤ r2.picks.length := by rw [hno, d6, d4]; exact hul
      have hs : St w0 (ks c) [[(rb, cb (rbx (.slice ra r2.rows.length rcap) (.slice na r2.notes.length ncap) (.slice pa pn pcap) r2) 58)], rc, nc, [(b3, cb (trC x) 33)]] w := hs.cast (by rw [hce]; simp)
      refine W_skip ?_
      refine W_block ?_ -- 1
      refine W_seq ?_
      -- region 7
      refine W_region (by decide +kernel) ?_
      refine sq_r r_assign rfl ?_
      refine sq_z ?_
      refine W_mid (M := fun f w => ∃ g, f = ov [(0, .pointer (some ⟨rb, 0, none⟩)), (3, .pointer (some ⟨b3, 0, none⟩)), (6, .int .i64 (rpick1 r2))] g ∧ St w0 (ks c) [[(rb, cb (rbx (.slice ra r2.rows.length rcap) (.slice na r2.notes.length ncap) (.slice pa pn pcap) (rused r2)) 58)], rc, nc, [(b3, cb (trC x) 33)]] w) ?_ (fun f w hM => ?_)
      · refine W_seq ?_
        -- region 8 DRAWS
        refine W_drawM hs Try.mixed [true, true, true, true] [0, 1, 3, 7, 0, 16, 48, 112, 240, 511] [] [0, 1, 2, 3, 4, 5, 6, 7, 8, 9] (by decide +kernel) ?_
        intro w hs; have hR := hs.mask [true, true, true, true]
        refine dq_r hR rfl rfl rfl (fun _ w _ _ hR => r_move) ?_
        refine dq_r hR rfl rfl rfl (fun _ w _ _ hR => r_nilCheck rfl) ?_
        refine dq_r hR rfl rfl rfl (fun _ w _ _ hR => r_field rfl fa58_4) ?_
        refine dq_r hR rfl rfl rfl (fun _ w _ _ hR => r_load1 rfl ty3 (At.one (v := .int .i64 r2.used) (hR.own (i := 0) rfl) rfl)) ?_
        refine dq_r hR rfl rfl rfl (fun _ w _ _ hR => r_move) ?_
        refine dq_r hR rfl rfl rfl (fun _ w _ _ hR => r_nilCheck rfl) ?_
        refine dq_r hR rfl rfl rfl (fun _ w _ _ hR => r_field rfl fa58_3) ?_
        refine dq_r hR rfl rfl rfl (fun _ w _ _ hR => r_load1 rfl ty27 (At.one (hR.own (i := 0) rfl) rfl)) ?_
        refine dq_r hR rfl rfl rfl (fun _ w _ _ hR => r_lenS Try.underlying27 rfl) ?_
        refine dq_r hR rfl rfl rfl (fun _ w _ _ hR => r_cmp rfl rfl rfl) ?_
        refine dq_z hR ?_
        refine W_cond rfl rfl (fun hg => ?_) (fun hg => ?_)
        · have hlt : r2.used < pn := by have := of_decide_eq_true hg; omega
          have hlt2 : r2.used < r2.picks.length := by rw [hl2.2, ← hpn]; exact hlt
          obtain ⟨q, hq⟩ : ∃ q, r2.picks[r2.used]? = some q := ⟨_, List.getElem?_eq_getElem hlt2⟩
          have hq' : r.picks[r2.used]? = some q := by rw [← hl2.2]; exact hq
          obtain ⟨pb, po, hpae, _, _⟩ := hro.get hq'
          have hatq : ∀ {w : World} {cs : List Ck}, St w0 (ks c) cs w → w.cell? ⟨pb, po + ((r2.used : Int)).toNat * 1, none⟩ = some (.int .i64 q) := fun hs => by
            have h := hro.old iF_len (by decide) hs (fun b hb => hb)
            rw [hpae] at h
            exact (h.get2 hq') 0 _ rfl
          refine W_seq ?_
          -- region 9 DRAWS
          refine W_drawM hs Try.mixed [true, true, true, true] [0, 1, 3, 7, 0, 16, 48, 112, 255, 511, 1023] [] [0, 1, 2, 3, 4, 5, 6, 7, 8, 9, 10] (by decide +kernel) ?_
          intro w hs; have hR := hs.mask [true, true, true, true]
          refine dq_r hR rfl rfl rfl (fun _ w _ _ hR => r_move) ?_
          refine dq_r hR rfl rfl rfl (fun _ w _ _ hR => r_nilCheck rfl) ?_
          refine dq_r hR rfl rfl rfl (fun _ w _ _ hR => r_field rfl fa58_3) ?_
          refine dq_r (v := .slice (some ⟨pb, po, none⟩) pn pcap) hR rfl rfl rfl (fun _ w _ _ hR => r_load1 rfl ty27 (At.one (hR.own (i := 0) rfl) (by rw [← hpae]; rfl))) ?_
          refine dq_r hR rfl rfl rfl (fun _ w _ _ hR => r_move) ?_
          refine dq_r hR rfl rfl rfl (fun _ w _ _ hR => r_nilCheck rfl) ?_
          refine dq_r hR rfl rfl rfl (fun _ w _ _ hR => r_field rfl fa58_4) ?_
          refine dq_r hR rfl rfl rfl (fun _ w _ _ hR => r_load1 rfl ty3 (At.one (v := .int .i64 r2.used) (hR.own (i := 0) rfl) rfl)) ?_
          refine dq_r hR rfl rfl rfl (fun _ w _ _ hR => r_index rfl rfl sl27 (by omega) (by omega)) ?_
          refine dq_r hR rfl rfl rfl (fun _ w _ _ hR => r_load1 rfl ty3 (hatq hR)) ?_
          refine dq_r hR rfl rfl rfl (fun _ w _ _ hR => r_assign) ?_
          refine dq_z hR ?_
          -- region 10
          refine W_region (by decide +kernel) ?_
          refine sq_r r_move rfl ?_
          refine sq_r (r_nilCheck rfl) rfl ?_
          refine sq_r (r_field rfl fa58_4) rfl ?_
          refine sq_r (r_load1 rfl ty3 (At.one (v := .int .i64 r2.used) (hs.own (i := 0) rfl) rfl)) rfl ?_
          refine sq_r (r_add (c := ((r2.used + 1 : Nat) : Int)) rfl rfl (by rw [wrap_small (by omega) (by omega)]; omega)) rfl ?_
          refine sq_r (r_nilCheck rfl) rfl ?_
          refine sq_r (r_field rfl fa58_4) rfl ?_
          refine sq_e rfl (o_store (i := 0) (vs := [.int .i64 ((r2.used + 1 : Nat) : Int)]) hs rfl rfl ty3 rfl (by simp [Value.oneCell']) (by simp [rbx]) ?_); intro w hs
          refine sq_z ?_
          have hp1 : rpick1 r2 = q := by rw [rpick1, hq]; rfl
          refine ⟨_, ov_self ⟨rfl, rfl, by rw [hp1]; rfl, trivial⟩, ?_⟩
          rw [rused, if_pos hlt2]
          exact hs
        · have hge : ¬ r2.used < r2.picks.length := by rw [hl2.2, ← hpn]; have := of_decide_eq_false hg; omega
          have hp1 : rpick1 r2 = 0 := by rw [rpick1, List.getElem?_eq_none (by omega)]; rfl
          refine W_skip ?_
          refine ⟨_, ov_self ⟨rfl, rfl, by rw [hp1]; rfl, trivial⟩, ?_⟩
          rw [rused, if_neg hge]
          exact hs
      obtain ⟨g, rfl, hs⟩ := hM
      have ht1 := Int.tmod_lt_of_pos (rpick1 r2) (b := r2.rows.length) (by omega)
      have ht2 := Int.lt_tmod_of_pos (rpick1 r2) (b := r2.rows.length) (by omega)
      refine W_seq ?_
      -- region 11
      refine W_region (by decide +kernel) ?_
      refine sq_r r_move rfl ?_
      refine sq_r r_move rfl ?_
      refine sq_r (r_nilCheck rfl) rfl ?_
      refine sq_r (r_field rfl fa58_0) rfl ?_
      refine sq_r (r_load1 rfl ty55 (At.one (hs.own (i := 0) rfl) rfl)) rfl ?_
      refine sq_r (r_lenS Try.underlying55 rfl) rfl ?_
      refine sq_r (r_rem rfl rfl (by omega)) rfl ?_
      refine sq_r r_assign rfl ?_
      refine sq_z ?_
      refine W_mid (M := fun f w => ∃ g, f = ov [(0, .pointer (some ⟨rb, 0, none⟩)), (3, .pointer (some ⟨b3, 0, none⟩)), (6, .int .i64 (rpickN r2))] g ∧ St w0 (ks c) [[(rb, cb (rbx (.slice ra r2.rows.length rcap) (.slice na r2.notes.length ncap) (.slice pa pn pcap) (rused r2)) 58)], rc, nc, [(b3, cb (trC x) 33)]] w) ?_ (fun f w hM => ?_)
      · refine W_seq ?_
        -- region 12
        refine W_region (by decide +kernel) ?_
        refine sq_r r_move rfl ?_
        refine sq_r (r_cmp rfl rfl rfl) rfl ?_
        refine sq_z ?_
        refine W_cond rfl rfl (fun hg => ?_) (fun hg => ?_)
        · -- region 13
          refine W_region (by decide +kernel) ?_
          refine sq_r r_move rfl ?_
          refine sq_r r_move rfl ?_
          refine sq_r (r_nilCheck rfl) rfl ?_
          refine sq_r (r_field rfl fa58_0) rfl ?_
          refine sq_r (r_load1 rfl ty55 (At.one (hs.own (i := 0) rfl) rfl)) rfl ?_
          refine sq_r (r_lenS Try.underlying55 rfl) rfl ?_
          refine sq_r (r_add rfl rfl (wrap_small (by omega) (by omega))) rfl ?_
          refine sq_r r_assign rfl ?_
          refine sq_z ?_
          exact ⟨_, ov_self ⟨rfl, rfl, by rw [rpickN, if_pos (of_decide_eq_true hg)]; rfl, trivial⟩, hs⟩
        · refine W_skip ?_
          exact ⟨_, ov_self ⟨rfl, rfl, by rw [rpickN, if_neg (of_decide_eq_false hg)]; rfl, trivial⟩, hs⟩
      obtain ⟨g, rfl, hs⟩ := hM
      have hrng := rpickN_rng hl0
      obtain ⟨i, hie⟩ : ∃ i : Nat, rpickN r2 = i := ⟨(rpickN r2).toNat, by omega⟩
      have hil : i < r2.rows.length := by omega
      obtain ⟨p, hpi⟩ : ∃ p, r2.rows[i]? = some p := ⟨_, List.getElem?_eq_getElem hil⟩
      have hev : revK r2 = goneR (rused r2) i p.1 := by
        unfold revK
        rw [hie, Int.toNat_natCast, hpi]
        rfl
      have heq := rused_eq r2
      obtain ⟨c4, hc4⟩ : ∃ c4, c4 = [(rb, cb (rbx (.slice ra r2.rows.length rcap) (.slice na r2.notes.length ncap) (.slice pa pn pcap) (rused r2)) 58)] ++ (rc ++ nc) := ⟨_, rfl⟩
      have hb4 : RK rb (.slice pa pn pcap) (rused r2) c4 := ⟨_, _, rc, nc, hc4, by rw [heq.1]; exact hrs, by rw [heq.2.1]; exact hns, by rw [heq.1]; exact hr1⟩
      have hs : St w0 (ks c) [c4, [(b3, cb (trC x) 33)]] w := hs.cast (by rw [hc4]; simp)
      rw [hie]
      -- region 14
      refine W_region (by decide +kernel) ?_
      refine sq_r r_move rfl ?_
      refine sq_r r_move rfl ?_
      refine sq_e rfl (o_call (i := 0) cb45 rfl rfl (f45_calls rb (.slice pa pn pcap) (rused r2) c4 hb4 i p (by rw [heq.1]; exact hpi) (by rw [heq.1]; omega) (by rw [heq.2.1]; exact hnl2)) hs rfl trivial ?_)
      intro u c5 w hb5 hs
      refine sq_z ?_
      have hle := revK_le hl0
      exact ⟨revK r2, ⟨_, c5, ov_self ⟨rfl, rfl, trivial⟩, .inr ⟨by rw [hno], by rw [← hno]; exact hfull⟩, by rw [hev]; exact hb5, hs⟩, by omega⟩
    · have hroom : ¬ r2.limit ≤ r2.rows.length := of_decide_eq_false hd
      refine W_exit ?_ -- 0
      have he : rev1 r1 = r2 := by
        rcases hor with rfl | ⟨rfl, hf⟩
        · rw [rev1, if_neg hroom]
        · rw [rev1, if_pos hf]
      repeat with_reducible refine thenQ_exit ?_
      refine blockQ_exit ?_
      exact ⟨_, c2, ov_self ⟨rfl, rfl, trivial⟩, by rw [he]; exact hb2, hs⟩
  obtain ⟨g, c2, rfl, hb2, hs⟩ := hM
  have hfin : (rev1 r1).last = r.last ∧ (rev1 r1).rows.length ≤ 1000 := by
    unfold rev1
    split
    · have h1 := revK_eq r1
      have h2 := revK_le (r := r1) (by omega)
      exact ⟨by rw [h1.2.2.1, d5], by omega⟩
    · exact ⟨d5, by omega⟩
  obtain ⟨r2, hr2e⟩ : ∃ r2, r2 = rev1 r1 := ⟨_, rfl⟩
  rw [← hr2e] at hb2 hfin
  obtain ⟨hla, hrl⟩ := hfin
  obtain ⟨rv, nv, rc, nc, hce, hrs, hns, hr1⟩ := hb2
  have hs : St w0 (ks c) [[(rb, cb (rbx rv nv (.slice pa pn pcap) r2) 58)], rc, nc, [(b3, cb (trC x) 33)]] w := hs.cast (by rw [hce]; simp)
  refine W_seq ?_
  -- region 15
  refine W_region (by decide +kernel) ?_
  refine sq_r r_move rfl ?_
  refine sq_r (r_nilCheck rfl) rfl ?_
  refine sq_r (r_field rfl fa58_5) rfl ?_
  refine sq_r (r_load1 rfl ty3 (At.one (v := .int .i64 r2.last) (hs.own (i := 0) rfl) rfl)) rfl ?_
  refine sq_r (r_add (c := r2.last + 1) rfl rfl (wrap_small (by omega) (by omega))) rfl ?_
  refine sq_r (r_nilCheck rfl) rfl ?_
  refine sq_r (r_field rfl fa58_5) rfl ?_
  refine sq_e rfl (o_store (i := 0) (vs := [.int .i64 (r2.last + 1)]) hs rfl rfl ty3 rfl (by simp [Value.oneCell']) (by simp [rbx]) ?_); intro w hs
  refine sq_z ?_
  have hs : St w0 (ks c) [[(rb, cb [rv, nv, .int .i64 r2.limit, .slice pa pn pcap, .int .i64 r2.used, .int .i64 (r2.last + 1), .int .i64 r2.top] 58)], rc, nc, [(b3, cb (trC x) 33)]] w := hs
  refine W_seq ?_
  -- region 16 DRAWS
  refine W_drawT hs Try.mixed [true, false, true, true] [false, false, true, true] 3 [0, 0, 2, 6, 14, 0, 32, 96, 224, 0, 992, 2016, 4094, 8191, 16383, 32767] [11, 12, 15] [0, 1, 2, 3, 4, 5, 6, 7, 8, 9, 10, 11, 12, 13, 14, 15] (by decide +kernel) ?_
  intro w hs; have hR := hs.mask [true, false, true, true]
  refine dq_rp hR rfl rfl rfl (fun w => r_move) ?_
  refine dq_rp hR rfl rfl rfl (fun w => r_move) ?_
  refine dq_rp hR rfl rfl rfl (fun w => r_nilCheck rfl) ?_
  refine dq_rp hR rfl rfl rfl (fun w => r_field rfl fa58_0) ?_
  refine dq_r1 hR rfl rfl (by decide) rfl (fun w hR => r_load1 rfl ty55 (At.one (v := rv) (hR.own (i := 0) rfl) rfl)) ?_
  refine dq_rp hR rfl rfl rfl (fun w => r_move) ?_
  refine dq_rp hR rfl rfl rfl (fun w => r_nilCheck rfl) ?_
  refine dq_rp hR rfl rfl rfl (fun w => r_field rfl fa58_5) ?_
  refine dq_r1 hR rfl rfl (by decide) rfl (fun w hR => r_load1 rfl ty3 (At.one (v := .int .i64 (r2.last + 1)) (hR.own (i := 0) rfl) rfl)) ?_
  refine dq_r1 hR rfl rfl (by decide) rfl (fun w hR => r_loadN rfl ty33 (trC_len x) (At.of_block (hR.own (i := 3) rfl) (by simp))) ?_
  refine dq_rp hR rfl rfl rfl (fun w => r_buildL (ps := [(0, .int .i64 (r2.last + 1)), (1, evT x)]) rfl (build_row _ (r2.last + 1) x)) ?_
  refine dq_e hR rfl rfl rfl (o_buildN [.agg (rowC (r2.last + 1, x)).toArray] [rowC (r2.last + 1, x)] sl55 ty60 hs rfl rfl rfl (by simp [rowC_len]) (by simp) ?_); intro b9 w hs
  have hR := hs.mask [true, false, true, true]
  refine dq_e hR rfl rfl rfl (o_append (i := 1) (m := 1) (news := rowC (r2.last + 1, x)) (soff := 0) (sb := b9) (scap := 1) sl55 ty60 rfl hs rfl rfl rfl hrs (by simp [rowC_len]) (At.of_block (hs.own (i := 4) rfl) (by rw [show [rowC (r2.last + 1, x)].flatten = rowC (r2.last + 1, x) from by simp, List.drop_zero, List.take_length])) (rowC_one hx1) (by omega) (by omega) ?_)
  intro rv3 rc3 w hsl hs
  have hR := hs.mask [true, false, true, true]
  refine dq_rp hR rfl rfl rfl (fun w => r_nilCheck rfl) ?_
  refine dq_rp hR rfl rfl rfl (fun w => r_field rfl fa58_0) ?_
  refine dq_e hR rfl rfl rfl (o_store (i := 0) (vs := [rv3]) hs rfl (sl_one hsl).2 ty55 rfl (by simpa using (sl_one hsl).1) (by simp) ?_); intro w hs
  have hR := hs.mask [false, false, true, true]
  refine dq_z hR ?_
  obtain ⟨ra3, rcap3, hrve⟩ := hsl.len
  have hs : St w0 (ks c) [[(rb, cb [.slice ra3 (r2.rows.length + 1) rcap3, nv, .int .i64 r2.limit, .slice pa pn pcap, .int .i64 r2.used, .int .i64 (r2.last + 1), .int .i64 r2.top] 58)], rc3, nc, [(b3, cb (trC x) 33)]] w := by
    rw [← hrve]
    exact hs.mask [true, true, true, true]
  rw [hrve] at hsl
  refine W_seq ?_
  -- region 17 DRAWS
  refine W_drawT hs Try.mixed [true, true, true, true] [false, true, true, true] 1 [0, 0, 2, 6, 14, 0, 32, 96, 224, 480, 1022, 2047, 4095, 8191] [13] [0, 1, 2, 3, 4, 5, 6, 7, 8, 9, 10, 11, 12, 13] (by decide +kernel) ?_
  intro w hs; have hR := hs.mask [true, true, true, true]
  refine dq_rp hR rfl rfl rfl (fun w => r_move) ?_
  refine dq_rp hR rfl rfl rfl (fun w => r_move) ?_
  refine dq_rp hR rfl rfl rfl (fun w => r_nilCheck rfl) ?_
  refine dq_rp hR rfl rfl rfl (fun w => r_field rfl fa58_6) ?_
  refine dq_r1 hR rfl rfl (by decide) rfl (fun w hR => r_load1 rfl ty3 (At.one (v := .int .i64 r2.top) (hR.own (i := 0) rfl) rfl)) ?_
  refine dq_rp hR rfl rfl rfl (fun w => r_move) ?_
  refine dq_rp hR rfl rfl rfl (fun w => r_nilCheck rfl) ?_
  refine dq_rp hR rfl rfl rfl (fun w => r_field rfl fa58_0) ?_
  refine dq_r1 hR rfl rfl (by decide) rfl (fun w hR => r_load1 rfl ty55 (At.one (hR.own (i := 0) rfl) rfl)) ?_
  refine dq_rp hR rfl rfl rfl (fun w => r_lenS Try.underlying55 rfl) ?_
  refine dq_rp hR rfl rfl rfl (fun w => r_max rfl rfl) ?_
  refine dq_rp hR rfl rfl rfl (fun w => r_nilCheck rfl) ?_
  refine dq_rp hR rfl rfl rfl (fun w => r_field rfl fa58_6) ?_
  refine dq_e hR rfl rfl rfl (o_store (i := 0) (vs := [.int .i64 (max r2.top ((r2.rows.length + 1 : Nat) : Int))]) hs rfl rfl ty3 rfl (by simp [Value.oneCell']) (by simp) ?_); intro w hs
  have hR := hs.mask [false, true, true, true]
  refine dq_z hR ?_
  have hs : St w0 (ks c) [[(rb, cb (rbx (.slice ra3 (r2.rows.length + 1) rcap3) nv (.slice pa pn pcap) (addR r2 x)) 58)], rc3, nc, [(b3, cb (trC x) 33)]] w := hs
  refine W_seq ?_
  -- region 18
  refine W_region (by decide +kernel) ?_
  refine sq_r r_move rfl ?_
  refine sq_r (r_nilCheck rfl) rfl ?_
  refine sq_r (r_field rfl fa58_5) rfl ?_
  refine sq_r (r_load1 rfl ty3 (At.one (v := .int .i64 (r2.last + 1)) (hs.own (i := 0) rfl) rfl)) rfl ?_
  refine sq_r r_assign rfl ?_
  refine sq_z ?_
  refine W_ret ?_
  have hput : rputS r x = addR r2 x := by rw [rputS, if_neg hz, ← hr1e, ← hr2e]
  refine ret1 (v := .int .i64 (r2.last + 1)) rfl (by decide) rfl (fin (c' := [(rb, cb (rbx (.slice ra3 (r2.rows.length + 1) rcap3) nv (.slice pa pn pcap) (addR r2 x)) 58)] ++ (rc3 ++ nc)) hs ⟨by rw [rputN, if_neg hz, hla], ?_⟩ (by simp))
  rw [hput]
  refine ⟨_, nv, rc3, nc, rfl, ?_, hns, fun p hp => ?_⟩
  · show Sl 60 18 _ (r2.rows ++ [(r2.last + 1, x)]).length ((r2.rows ++ [(r2.last + 1, x)]).flatMap rowC) rc3
    rw [List.length_append, List.flatMap_append]
    simpa using hsl
  · rcases List.mem_append.1 hp with hp | hp
    · exact hr1 p hp
    · simp only [List.mem_singleton] at hp
      rw [hp]
      exact hx1

end Go.Proofs.Ytddhdoncjfgfnaa
