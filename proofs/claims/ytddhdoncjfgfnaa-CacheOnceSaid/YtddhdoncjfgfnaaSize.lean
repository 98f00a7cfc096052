/-
  Layer 15: a trace's size (Size): some number is told. Condition: it is not long.
-/
import Derived.Test.YtddhdoncjfgfnaaSame
namespace Go.Proofs.Ytddhdoncjfgfnaa
open Go.Eng

set_option maxRecDepth 20000 in
set_option maxHeartbeats 4000000 in
theorem f8_calls (x : LT) (B : Nat → Prop) (hsm : x.small) : Ctr Try.prog 8 #[evT x] [] (RdT B x) (fun r c => (∃ z, r = .int .i64 z) ∧ c = []) := by
  intro w0 hp hx
  have hs : St w0 (ks []) [] w0 := St.start w0
  have hmax : 20000000000000 ≤ maxLen := by decide +kernel
  have hkB : ∀ b, B b → b ∉ ks [] := by simp [ks]
  have n5 := hsm.o
  have n6 := hsm.l
  have n7 := hsm.v
  obtain ⟨xia, xicap, x12⟩ := hx.i.len
  obtain ⟨xoa, xocap, x13⟩ := hx.o.len
  obtain ⟨xla, xlcap, x14⟩ := hx.l.len
  obtain ⟨xva, xvcap, x15⟩ := hx.v.len
  obtain ⟨xba, xbcap, x16⟩ := hx.b.len
  have hxo := hx.o; have hxl := hx.l; have hxv := hx.v
  rw [x13] at hxo
  rw [x14] at hxl
  rw [x15] at hxv
  have X12 := tr12 x; rw [x12] at X12
  have X13 := tr13 x; rw [x13] at X13
  have X14 := tr14 x; rw [x14] at X14
  have X15 := tr15 x; rw [x15] at X15
  have X16 := tr16 x; rw [x16] at X16
  refine calls_W (n := 69) Try.func8 rfl Try.ntmps8 (by simp) ?_
  refine W_seq ?_
  -- region 0
  refine W_region (by decide +kernel) ?_
  refine sq_e rfl (o_box (cs := trC x) hs rfl ?_); intro b1 w hs
  refine sq_r r_assign rfl ?_
  refine sq_z ?_
  have hs : St w0 (ks []) [[(b1, cb (trC x) 33)]] w := hs
  refine W_seq ?_
  -- region 1
  refine W_region (by decide +kernel) ?_
  refine sq_r (r_field rfl fa33_3) rfl ?_
  refine sq_r (r_load1 rfl ty27 (At.one (hs.own (i := 0) rfl) X12)) rfl ?_
  refine sq_r (r_lenS Try.underlying27 rfl) rfl ?_
  refine sq_r (r_field rfl fa33_4) rfl ?_
  refine sq_r (r_load1 rfl ty28 (At.one (hs.own (i := 0) rfl) X13)) rfl ?_
  refine sq_r (r_lenS Try.underlying28 rfl) rfl ?_
  refine sq_r (r_add rfl rfl rfl) rfl ?_
  refine sq_r (r_field rfl fa33_5) rfl ?_
  refine sq_r (r_load1 rfl ty29 (At.one (hs.own (i := 0) rfl) X14)) rfl ?_
  refine sq_r (r_lenS Try.underlying29 rfl) rfl ?_
  refine sq_r (r_add rfl rfl rfl) rfl ?_
  refine sq_r (r_field rfl fa33_6) rfl ?_
  refine sq_r (r_load1 rfl ty30 (At.one (hs.own (i := 0) rfl) X15)) rfl ?_
  refine sq_r (r_lenS Try.underlying30 rfl) rfl ?_
  refine sq_r (r_add rfl rfl rfl) rfl ?_
  refine sq_r (r_field rfl fa33_7) rfl ?_
  refine sq_r (r_load1 rfl ty31 (At.one (hs.own (i := 0) rfl) X16)) rfl ?_
  refine sq_r (r_lenS Try.underlying31 rfl) rfl ?_
  refine sq_r (r_add rfl rfl rfl) rfl ?_
  refine sq_r r_assign rfl ?_
  refine sq_z ?_
  refine W_seq ?_
  refine W_seq ?_
  refine W_region (by decide +kernel) ?_
  refine sq_r (r_field rfl fa33_4) rfl ?_
  refine sq_r (r_load1 rfl ty28 (At.one (hs.own (i := 0) rfl) X13)) rfl ?_
  refine sq_r (r_lenS Try.underlying28 rfl) rfl ?_
  refine sq_r r_move rfl ?_
  refine sq_z ?_
  refine W_block ?_
  refine W_loop (fun (i : Nat) f w => ∃ g z, f = ov [(1, .pointer (some ⟨b1, 0, none⟩)), (3, .int .i64 z), (30, .slice xoa x.ops.length xocap), (31, .int .i64 x.ops.length), (32, .int .i64 i)] g ∧ i ≤ x.ops.length ∧ St w0 (ks []) [[(b1, cb (trC x) 33)]] w) (fun i => x.ops.length - i) 0 ?_ ?_
  · exact ⟨_, _, ov_self ⟨rfl, rfl, rfl, rfl, rfl, trivial⟩, Nat.zero_le _, hs⟩
  clear hs
  rintro i f w ⟨g, z, rfl, hi, hs⟩
  refine W_seq ?_
  refine W_region (by decide +kernel) ?_
  refine sq_r (r_cmp rfl rfl rfl) rfl ?_
  refine sq_z ?_
  refine W_seq ?_
  refine W_cond rfl rfl (fun hd => ?_) (fun hd => ?_)
  · have hlt : i < x.ops.length := by have := of_decide_eq_true hd; omega
    obtain ⟨p, hp⟩ : ∃ p, x.ops[i]? = some p := ⟨_, List.getElem?_eq_getElem hlt⟩
    have hpm := List.mem_of_getElem? hp
    obtain ⟨xb, xo, rfl, _, _⟩ := hxo.get hp
    obtain ⟨pa, pc, hpv⟩ := (hx.ao p hpm).len
    have hpo := opC_one ((hx.ao p hpm).shape.1)
    refine W_skip ?_
    refine W_seq ?_
    refine W_block ?_
    refine W_seq ?_
    refine W_region (by decide +kernel) ?_
    refine sq_r (r_index rfl rfl sl28 (by omega) (by omega)) rfl ?_
    refine sq_r (r_loadN rfl ty39 (opC_len p) ((hxo.old opC_len (by decide) hs hkB).get2 hp)) rfl ?_
    refine sq_e rfl (o_alloc hs ty39 ?_); intro b5 w hs
    refine sq_e rfl (o_store (i := 1) (vs := opC p) hs rfl rfl ty39 rfl hpo (by simp [opC_len]) ?_); intro w hs
    refine sq_z ?_
    have hs : St w0 (ks []) [[(b1, cb (trC x) 33)], [(b5, cb (opC p) 39)]] w := hs
    refine W_region (by decide +kernel) ?_
    refine sq_r r_move rfl ?_
    refine sq_r (r_field rfl fa39_1) rfl ?_
    refine sq_r (r_load1 rfl ty31 (At.one (v := p.2) (hs.own (i := 1) rfl) rfl)) rfl ?_
    refine sq_r (r_lenS Try.underlying31 hpv) rfl ?_
    refine sq_r (r_add rfl rfl rfl) rfl ?_
    refine sq_r r_assign rfl ?_
    refine sq_z ?_
    refine W_region (by decide +kernel) ?_
    refine sq_r (r_add rfl rfl (wrap_small (by omega) (by omega))) rfl ?_
    refine sq_r r_move rfl ?_
    refine sq_z ?_
    exact ⟨i + 1, ⟨_, _, ov_self ⟨rfl, rfl, rfl, rfl, rfl, trivial⟩, by omega, hs.keep (by simp)⟩, by omega⟩
  refine W_exit ?_
  refine W_seq ?_
  refine W_seq ?_
  refine W_region (by decide +kernel) ?_
  refine sq_r (r_field rfl fa33_5) rfl ?_
  refine sq_r (r_load1 rfl ty29 (At.one (hs.own (i := 0) rfl) X14)) rfl ?_
  refine sq_r (r_lenS Try.underlying29 rfl) rfl ?_
  refine sq_r r_move rfl ?_
  refine sq_z ?_
  refine W_block ?_
  refine W_loop (fun (i : Nat) f w => ∃ g z, f = ov [(1, .pointer (some ⟨b1, 0, none⟩)), (3, .int .i64 z), (43, .slice xla x.links.length xlcap), (44, .int .i64 x.links.length), (45, .int .i64 i)] g ∧ i ≤ x.links.length ∧ St w0 (ks []) [[(b1, cb (trC x) 33)]] w) (fun i => x.links.length - i) 0 ?_ ?_
  · exact ⟨_, _, ov_self ⟨rfl, rfl, rfl, rfl, rfl, trivial⟩, Nat.zero_le _, hs⟩
  clear hs
  rintro i f w ⟨g, z, rfl, hi, hs⟩
  refine W_seq ?_
  refine W_region (by decide +kernel) ?_
  refine sq_r (r_cmp rfl rfl rfl) rfl ?_
  refine sq_z ?_
  refine W_seq ?_
  refine W_cond rfl rfl (fun hd => ?_) (fun hd => ?_)
  · have hlt : i < x.links.length := by have := of_decide_eq_true hd; omega
    obtain ⟨p, hp⟩ : ∃ p, x.links[i]? = some p := ⟨_, List.getElem?_eq_getElem hlt⟩
    have hpm := List.mem_of_getElem? hp
    obtain ⟨xb, xo, rfl, _, _⟩ := hxl.get hp
    obtain ⟨pa, pc, hpv⟩ := (hx.al p hpm).len
    have hpo := lkC_one ((hx.al p hpm).shape.1)
    refine W_skip ?_
    refine W_seq ?_
    refine W_block ?_
    refine W_seq ?_
    refine W_region (by decide +kernel) ?_
    refine sq_r (r_index rfl rfl sl29 (by omega) (by omega)) rfl ?_
    refine sq_r (r_loadN rfl ty76 (lkC_len p) ((hxl.old lkC_len (by decide) hs hkB).get2 hp)) rfl ?_
    refine sq_e rfl (o_alloc hs ty76 ?_); intro b5 w hs
    refine sq_e rfl (o_store (i := 1) (vs := lkC p) hs rfl rfl ty76 rfl hpo (by simp [lkC_len]) ?_); intro w hs
    refine sq_z ?_
    have hs : St w0 (ks []) [[(b1, cb (trC x) 33)], [(b5, cb (lkC p) 76)]] w := hs
    refine W_region (by decide +kernel) ?_
    refine sq_r r_move rfl ?_
    refine sq_r (r_field rfl fa76_4) rfl ?_
    refine sq_r (r_load1 rfl ty31 (At.one (v := p.2) (hs.own (i := 1) rfl) rfl)) rfl ?_
    refine sq_r (r_lenS Try.underlying31 hpv) rfl ?_
    refine sq_r (r_add rfl rfl rfl) rfl ?_
    refine sq_r r_assign rfl ?_
    refine sq_z ?_
    refine W_region (by decide +kernel) ?_
    refine sq_r (r_add rfl rfl (wrap_small (by omega) (by omega))) rfl ?_
    refine sq_r r_move rfl ?_
    refine sq_z ?_
    exact ⟨i + 1, ⟨_, _, ov_self ⟨rfl, rfl, rfl, rfl, rfl, trivial⟩, by omega, hs.keep (by simp)⟩, by omega⟩
  refine W_exit ?_
  refine W_seq ?_
  refine W_seq ?_
  refine W_region (by decide +kernel) ?_
  refine sq_r (r_field rfl fa33_6) rfl ?_
  refine sq_r (r_load1 rfl ty30 (At.one (hs.own (i := 0) rfl) X15)) rfl ?_
  refine sq_r (r_lenS Try.underlying30 rfl) rfl ?_
  refine sq_r r_move rfl ?_
  refine sq_z ?_
  refine W_block ?_
  refine W_loop (fun (i : Nat) f w => ∃ g z, f = ov [(1, .pointer (some ⟨b1, 0, none⟩)), (3, .int .i64 z), (56, .slice xva x.virts.length xvcap), (57, .int .i64 x.virts.length), (58, .int .i64 i)] g ∧ i ≤ x.virts.length ∧ St w0 (ks []) [[(b1, cb (trC x) 33)]] w) (fun i => x.virts.length - i) 0 ?_ ?_
  · exact ⟨_, _, ov_self ⟨rfl, rfl, rfl, rfl, rfl, trivial⟩, Nat.zero_le _, hs⟩
  clear hs
  rintro i f w ⟨g, z, rfl, hi, hs⟩
  refine W_seq ?_
  refine W_region (by decide +kernel) ?_
  refine sq_r (r_cmp rfl rfl rfl) rfl ?_
  refine sq_z ?_
  refine W_seq ?_
  refine W_cond rfl rfl (fun hd => ?_) (fun hd => ?_)
  · have hlt : i < x.virts.length := by have := of_decide_eq_true hd; omega
    obtain ⟨p, hp⟩ : ∃ p, x.virts[i]? = some p := ⟨_, List.getElem?_eq_getElem hlt⟩
    have hpm := List.mem_of_getElem? hp
    obtain ⟨xb, xo, rfl, _, _⟩ := hxv.get hp
    obtain ⟨pa, pc, hpv⟩ := (hx.av p hpm).len
    have hpo := vtC_one ((hx.av p hpm).shape.1)
    refine W_skip ?_
    refine W_seq ?_
    refine W_block ?_
    refine W_seq ?_
    refine W_region (by decide +kernel) ?_
    refine sq_r (r_index rfl rfl sl30 (by omega) (by omega)) rfl ?_
    refine sq_r (r_loadN rfl ty78 (vtC_len p) ((hxv.old vtC_len (by decide) hs hkB).get2 hp)) rfl ?_
    refine sq_e rfl (o_alloc hs ty78 ?_); intro b5 w hs
    refine sq_e rfl (o_store (i := 1) (vs := vtC p) hs rfl rfl ty78 rfl hpo (by simp [vtC_len]) ?_); intro w hs
    refine sq_z ?_
    have hs : St w0 (ks []) [[(b1, cb (trC x) 33)], [(b5, cb (vtC p) 78)]] w := hs
    refine W_region (by decide +kernel) ?_
    refine sq_r r_move rfl ?_
    refine sq_r (r_field rfl fa78_1) rfl ?_
    refine sq_r (r_load1 rfl ty31 (At.one (v := p.2) (hs.own (i := 1) rfl) rfl)) rfl ?_
    refine sq_r (r_lenS Try.underlying31 hpv) rfl ?_
    refine sq_r (r_add rfl rfl rfl) rfl ?_
    refine sq_r r_assign rfl ?_
    refine sq_z ?_
    refine W_region (by decide +kernel) ?_
    refine sq_r (r_add rfl rfl (wrap_small (by omega) (by omega))) rfl ?_
    refine sq_r r_move rfl ?_
    refine sq_z ?_
    exact ⟨i + 1, ⟨_, _, ov_self ⟨rfl, rfl, rfl, rfl, rfl, trivial⟩, by omega, hs.keep (by simp)⟩, by omega⟩
  refine W_exit ?_
  refine W_seq ?_
  -- region 17
  refine W_region (by decide +kernel) ?_
  refine sq_r r_move rfl ?_
  refine sq_r r_assign rfl ?_
  refine sq_z ?_
  refine W_ret ?_
  exact ret1 (v := .int .i64 z) rfl (by decide) rfl (fin (c' := []) hs ⟨⟨z, rfl⟩, rfl⟩ (by simp))

end Go.Proofs.Ytddhdoncjfgfnaa
