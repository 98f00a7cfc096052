/-
  Layer 17: how much a trace of links and virtual things has in it (Size). Condition: it is not very much.
-/
import Derived.Test.YtfojeengapebmaaPlain
namespace Go.Proofs.Ytfojeengapebmaa
open Go.Eng

structure Vt where
  rc : Int
  cells : List Sc
def vtC (x : Vt) (cv : Value) : List Value := [.int .i64 x.rc, cv]
def RdV (B : Nat → Prop) (v : Value) (vs : List Vt) (w : World) : Prop :=
  ∃ a cap, v = .slice a vs.length cap ∧ ∀ i x, vs[i]? = some x → ∃ b off cv, a = some ⟨b, off, none⟩ ∧ B b ∧ At w b (off + i * 2) (vtC x cv) ∧ RdS B cv x.cells w
def cln (l : List Vt) : Nat := (l.map fun x => x.cells.length).sum
theorem cln_take {l : List Vt} {i : Nat} {x : Vt} (hx : l[i]? = some x) : cln (l.take (i + 1)) = cln (l.take i) + x.cells.length := by
  unfold cln
  rw [List.take_add_one, hx]
  simp
theorem cln_le (l : List Vt) (i : Nat) : cln (l.take i) ≤ cln l := by
  unfold cln
  conv => rhs; rw [← List.take_append_drop i l]
  rw [List.map_append, List.sum_append]
  omega
def trC (lv vv : Value) : List Value := [.int .i64 0, .int .i64 0, .int .i64 0, .int .i64 0, .int .i64 0, .int .i64 0, .int .i64 0, .int .i64 0, .int .i64 0, .int .i64 0, .int .i64 0, .int .i64 0, .slice none 0 0, .slice none 0 0, lv, vv, .slice none 0 0]

set_option maxRecDepth 20000 in
set_option maxHeartbeats 1000000 in
theorem f16_calls (lv vv : Value) (ls : List Lk) (vs : List Vt) (B : Nat → Prop) (hb : ls.length + vs.length + rgn ls + cln vs ≤ 4000000000000000000) : Ctr Try.prog 16 #[.agg (trC lv vv).toArray] [] (fun w => RdL B lv ls w ∧ RdV B vv vs w)
    (fun r c => r = .int .i64 ((ls.length + vs.length + rgn ls + cln vs : Nat) : Int) ∧ c = []) := by
  intro w0 hp hro
  have hs : St w0 (ks []) [] w0 := St.start w0
  obtain ⟨⟨la, lcap, rfl, hl⟩, ⟨va, vcap, rfl, hv⟩⟩ := hro
  refine calls_W (n := 69) Try.func16 rfl Try.ntmps16 (by simp) ?_
  refine W_seq ?_
  -- region 0
  refine W_region (by decide +kernel) ?_
  refine sq_e rfl (o_box (cs := trC (.slice la ls.length lcap) (.slice va vs.length vcap)) hs rfl ?_); intro b1 w hs
  refine sq_r r_assign rfl ?_
  refine sq_z ?_
  refine W_seq ?_
  -- region 1
  refine W_region (by decide +kernel) ?_
  refine sq_r (r_field rfl fa51_3) rfl ?_
  refine sq_r (r_load1 rfl ty35 (At.one (hs.own (i := 0) rfl) rfl)) rfl ?_
  refine sq_r (r_lenS Try.underlying35 rfl) rfl ?_
  refine sq_r (r_field rfl fa51_4) rfl ?_
  refine sq_r (r_load1 rfl ty49 (At.one (hs.own (i := 0) rfl) rfl)) rfl ?_
  refine sq_r (r_lenS Try.underlying49 rfl) rfl ?_
  refine sq_r (r_add (c := 0) rfl rfl (by first | (rw [wrap_small (by omega) (by omega)]; done) | (rw [wrap_small (by omega) (by omega)]; omega))) rfl ?_
  refine sq_r (r_field rfl fa51_5) rfl ?_
  refine sq_r (r_load1 rfl ty28 (At.one (hs.own (i := 0) rfl) rfl)) rfl ?_
  refine sq_r (r_lenS Try.underlying28 rfl) rfl ?_
  refine sq_r (r_add (c := (ls.length : Int)) rfl rfl (by first | (rw [wrap_small (by omega) (by omega)]; done) | (rw [wrap_small (by omega) (by omega)]; omega))) rfl ?_
  refine sq_r (r_field rfl fa51_6) rfl ?_
  refine sq_r (r_load1 rfl ty41 (At.one (hs.own (i := 0) rfl) rfl)) rfl ?_
  refine sq_r (r_lenS Try.underlying41 rfl) rfl ?_
  refine sq_r (r_add (c := (ls.length : Int) + vs.length) rfl rfl (by first | (rw [wrap_small (by omega) (by omega)]; done) | (rw [wrap_small (by omega) (by omega)]; omega))) rfl ?_
  refine sq_r (r_field rfl fa51_7) rfl ?_
  refine sq_r (r_load1 rfl ty37 (At.one (hs.own (i := 0) rfl) rfl)) rfl ?_
  refine sq_r (r_lenS Try.underlying37 rfl) rfl ?_
  refine sq_r (r_add (c := (ls.length : Int) + vs.length) rfl rfl (by first | (rw [wrap_small (by omega) (by omega)]; done) | (rw [wrap_small (by omega) (by omega)]; omega))) rfl ?_
  refine sq_r r_assign rfl ?_
  refine sq_z ?_
  refine W_seq ?_
  refine W_seq ?_
  -- region 2
  refine W_region (by decide +kernel) ?_
  refine sq_r (r_field rfl fa51_4) rfl ?_
  refine sq_r (r_load1 rfl ty49 (At.one (hs.own (i := 0) rfl) rfl)) rfl ?_
  refine sq_r (r_lenS Try.underlying49 rfl) rfl ?_
  refine sq_r r_move rfl ?_
  refine sq_z ?_
  refine W_block ?_ -- 0
  -- LOOP
  refine W_loop (fun (_ : Nat) f w => ∃ g, f = ov [(1, .pointer (some ⟨b1, 0, none⟩)), (3, .int .i64 ((ls.length : Int) + vs.length)), (31, .int .i64 0), (32, .int .i64 0)] g ∧ St w0 (ks []) [[(b1, cb (trC (.slice la ls.length lcap) (.slice va vs.length vcap)) 51)]] w) (fun _ => 0) 0 ?_ ?_
  · exact ⟨_, ov_self ⟨rfl, rfl, rfl, rfl, trivial⟩, hs⟩
  clear hs
  rintro _ f w ⟨g, rfl, hs⟩
  refine W_seq ?_
  -- region 3
  refine W_region (by decide +kernel) ?_
  refine sq_r (r_cmp (r := false) rfl rfl rfl) rfl ?_
  refine sq_z ?_
  refine W_seq ?_
  refine W_cond rfl rfl (fun hc => ?_) (fun hc => ?_)
  · cases hc
  refine W_exit ?_ -- 0
  refine W_seq ?_
  refine W_seq ?_
  -- region 7
  refine W_region (by decide +kernel) ?_
  refine sq_r (r_field rfl fa51_5) rfl ?_
  refine sq_r (r_load1 rfl ty28 (At.one (hs.own (i := 0) rfl) rfl)) rfl ?_
  refine sq_r (r_lenS Try.underlying28 rfl) rfl ?_
  refine sq_r r_move rfl ?_
  refine sq_z ?_
  refine W_block ?_ -- 2
  -- LOOP
  refine W_loop (fun (i : Nat) f w => ∃ g, f = ov [(1, .pointer (some ⟨b1, 0, none⟩)), (3, .int .i64 ((ls.length : Int) + vs.length + rgn (ls.take i))), (43, .slice la ls.length lcap), (44, .int .i64 ls.length), (45, .int .i64 i)] g ∧ i ≤ ls.length ∧ St w0 (ks []) [[(b1, cb (trC (.slice la ls.length lcap) (.slice va vs.length vcap)) 51)]] w) (fun i => ls.length - i) 0 ?_ ?_
  · exact ⟨_, ov_self ⟨rfl, by simp [rgn]; rfl, rfl, rfl, rfl, trivial⟩, Nat.zero_le _, hs⟩
  clear hs
  rintro i f w ⟨g, rfl, hi, hs⟩
  refine W_seq ?_
  -- region 8
  refine W_region (by decide +kernel) ?_
  refine sq_r (r_cmp rfl rfl rfl) rfl ?_
  refine sq_z ?_
  refine W_seq ?_
  refine W_cond rfl rfl (fun hd => ?_) (fun hd => ?_)
  · have hlt : i < ls.length := by have := of_decide_eq_true hd; omega
    obtain ⟨x, hx⟩ : ∃ x, ls[i]? = some x := ⟨_, List.getElem?_eq_getElem hlt⟩
    obtain ⟨b, off, rv, rfl, _, hat0, ⟨ra, rcap, rfl, _⟩⟩ := hl i x hx
    have hat : At w b (off + i * 5) (lkC x (.slice ra x.regs.length rcap)) := at_keep hs (by simp [ks]) (by simp [lkC]) hat0
    have hrt := rgn_take hx
    have hrl := rgn_le ls (i + 1)
    refine W_skip ?_
    refine W_seq ?_
    refine W_block ?_ -- 3
    refine W_seq ?_
    -- region 9
    refine W_region (by decide +kernel) ?_
    refine sq_r (r_index rfl rfl sl28 (by omega) (by omega)) rfl ?_
    refine sq_r (r_loadN (vs := lkC x (.slice ra x.regs.length rcap)) rfl ty39 rfl hat) rfl ?_
    refine sq_e rfl (o_alloc hs ty39 ?_); intro b7 w hs
    refine sq_e rfl (o_store (i := 1) (vs := lkC x (.slice ra x.regs.length rcap)) hs rfl rfl ty39 rfl (by simp [lkC, Value.oneCell']) (by simp [lkC]) ?_); intro w hs
    refine sq_z ?_
    have hs : St w0 (ks []) [[(b1, cb (trC (.slice (some ⟨b, off, none⟩) ls.length lcap) (.slice va vs.length vcap)) 51)], [(b7, cb (lkC x (.slice ra x.regs.length rcap)) 39)]] w := hs
    -- region 10
    refine W_region (by decide +kernel) ?_
    refine sq_r r_move rfl ?_
    refine sq_r (r_field rfl fa39_4) rfl ?_
    refine sq_r (r_load1 rfl ty37 (At.one (hs.own (i := 1) rfl) rfl)) rfl ?_
    refine sq_r (r_lenS Try.underlying37 rfl) rfl ?_
    refine sq_r (r_add (c := (ls.length : Int) + vs.length + rgn (ls.take (i + 1))) rfl rfl (by rw [wrap_small (by omega) (by omega)]; omega)) rfl ?_
    refine sq_r r_assign rfl ?_
    refine sq_z ?_
    -- region 11
    refine W_region (by decide +kernel) ?_
    refine sq_r (r_add rfl rfl (wrap_small (by omega) (by omega))) rfl ?_
    refine sq_r r_move rfl ?_
    refine sq_z ?_
    exact ⟨i + 1, ⟨_, ov_self ⟨rfl, rfl, rfl, rfl, rfl, trivial⟩, by omega, (hs.mask [true, false]).cast (by simp [zipMask])⟩, by omega⟩
  have hin : i = ls.length := by have := of_decide_eq_false hd; omega
  subst hin
  rw [List.take_length]
  refine W_exit ?_ -- 2
  refine W_seq ?_
  refine W_seq ?_
  -- region 12
  refine W_region (by decide +kernel) ?_
  refine sq_r (r_field rfl fa51_6) rfl ?_
  refine sq_r (r_load1 rfl ty41 (At.one (hs.own (i := 0) rfl) rfl)) rfl ?_
  refine sq_r (r_lenS Try.underlying41 rfl) rfl ?_
  refine sq_r r_move rfl ?_
  refine sq_z ?_
  refine W_block ?_ -- 4
  -- LOOP
  refine W_loop (fun (i : Nat) f w => ∃ g, f = ov [(1, .pointer (some ⟨b1, 0, none⟩)), (3, .int .i64 ((ls.length : Int) + vs.length + rgn ls + cln (vs.take i))), (56, .slice va vs.length vcap), (57, .int .i64 vs.length), (58, .int .i64 i)] g ∧ i ≤ vs.length ∧ St w0 (ks []) [[(b1, cb (trC (.slice la ls.length lcap) (.slice va vs.length vcap)) 51)]] w) (fun i => vs.length - i) 0 ?_ ?_
  · exact ⟨_, ov_self ⟨rfl, by simp [cln]; rfl, rfl, rfl, rfl, trivial⟩, Nat.zero_le _, hs⟩
  clear hs
  rintro i f w ⟨g, rfl, hi, hs⟩
  refine W_seq ?_
  -- region 13
  refine W_region (by decide +kernel) ?_
  refine sq_r (r_cmp rfl rfl rfl) rfl ?_
  refine sq_z ?_
  refine W_seq ?_
  refine W_cond rfl rfl (fun hd => ?_) (fun hd => ?_)
  · have hlt : i < vs.length := by have := of_decide_eq_true hd; omega
    obtain ⟨x, hx⟩ : ∃ x, vs[i]? = some x := ⟨_, List.getElem?_eq_getElem hlt⟩
    obtain ⟨b, off, rv, rfl, _, hat0, ⟨ra, rcap, rfl, _⟩⟩ := hv i x hx
    have hat : At w b (off + i * 2) (vtC x (.slice ra x.cells.length rcap)) := at_keep hs (by simp [ks]) (by simp [vtC]) hat0
    have hrt := cln_take hx
    have hrl := cln_le vs (i + 1)
    refine W_skip ?_
    refine W_seq ?_
    refine W_block ?_ -- 5
    refine W_seq ?_
    -- region 14
    refine W_region (by decide +kernel) ?_
    refine sq_r (r_index rfl rfl sl41 (by omega) (by omega)) rfl ?_
    refine sq_r (r_loadN (vs := vtC x (.slice ra x.cells.length rcap)) rfl ty76 rfl hat) rfl ?_
    refine sq_e rfl (o_alloc hs ty76 ?_); intro b7 w hs
    refine sq_e rfl (o_store (i := 1) (vs := vtC x (.slice ra x.cells.length rcap)) hs rfl rfl ty76 rfl (by simp [vtC, Value.oneCell']) (by simp [vtC]) ?_); intro w hs
    refine sq_z ?_
    have hs : St w0 (ks []) [[(b1, cb (trC (.slice la ls.length lcap) (.slice (some ⟨b, off, none⟩) vs.length vcap)) 51)], [(b7, cb (vtC x (.slice ra x.cells.length rcap)) 76)]] w := hs
    -- region 15
    refine W_region (by decide +kernel) ?_
    refine sq_r r_move rfl ?_
    refine sq_r (r_field rfl fa76_1) rfl ?_
    refine sq_r (r_load1 rfl ty37 (At.one (hs.own (i := 1) rfl) rfl)) rfl ?_
    refine sq_r (r_lenS Try.underlying37 rfl) rfl ?_
    refine sq_r (r_add (c := (ls.length : Int) + vs.length + rgn ls + cln (vs.take (i + 1))) rfl rfl (by rw [wrap_small (by omega) (by omega)]; omega)) rfl ?_
    refine sq_r r_assign rfl ?_
    refine sq_z ?_
    -- region 16
    refine W_region (by decide +kernel) ?_
    refine sq_r (r_add rfl rfl (wrap_small (by omega) (by omega))) rfl ?_
    refine sq_r r_move rfl ?_
    refine sq_z ?_
    exact ⟨i + 1, ⟨_, ov_self ⟨rfl, rfl, rfl, rfl, rfl, trivial⟩, by omega, (hs.mask [true, false]).cast (by simp [zipMask])⟩, by omega⟩
  have hin : i = vs.length := by have := of_decide_eq_false hd; omega
  subst hin
  rw [List.take_length]
  refine W_exit ?_ -- 4
  refine W_seq ?_
  -- region 17
  refine W_region (by decide +kernel) ?_
  refine sq_r r_move rfl ?_
  refine sq_r r_assign rfl ?_
  refine sq_z ?_
  refine W_ret ?_
  refine ret1 (v := .int .i64 ((ls.length : Int) + vs.length + rgn ls + cln vs)) rfl (by decide) rfl (fin (c' := []) hs ⟨?_, rfl⟩ (by simp))
  congr 1

end Go.Proofs.Ytfojeengapebmaa
