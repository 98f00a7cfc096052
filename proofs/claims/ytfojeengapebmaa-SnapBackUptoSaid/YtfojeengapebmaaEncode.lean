/-
  Layer 17: Encode. Conditions: what comes in is not much.
-/
import Derived.Test.YtfojeengapebmaaEnc
namespace Go.Proofs.Ytfojeengapebmaa
open Go.Eng

theorem RdV.lt {B : Nat → Prop} {v : Value} {vs : List Vt} {w : World} (h : RdV B v vs w) : RdV (fun b => B b ∧ b < w.heap.size) v vs w := by
  obtain ⟨a, cap, hv, hall⟩ := h
  refine ⟨a, cap, hv, fun i x hi => ?_⟩
  obtain ⟨b, off, rv, ha, hb, hat, hr⟩ := hall i x hi
  exact ⟨b, off, rv, ha, ⟨hb, cells_lt (hat 0 (.int .i64 x.rc) rfl)⟩, hat, hr.lt⟩
theorem RdV.mono {B B' : Nat → Prop} {v : Value} {vs : List Vt} {w : World} (h : RdV B v vs w) (hB : ∀ b, B b → B' b) : RdV B' v vs w := by
  obtain ⟨a, cap, hv, hall⟩ := h
  refine ⟨a, cap, hv, fun i x hi => ?_⟩
  obtain ⟨b, off, rv, ha, hb, hat, hr⟩ := hall i x hi
  exact ⟨b, off, rv, ha, hB b hb, hat, hr.mono hB⟩
theorem build79 (w : World) : (Instr.build 79 #[]).run Try.prog w = .ok (.agg #[.slice none 0 0]) w := by kernel_rfl

set_option maxRecDepth 20000 in
set_option maxHeartbeats 1000000 in
theorem f17_calls (lv vv : Value) (ls : List Lk) (vs : List Vt) (hl64 : ∀ x ∈ ls, okL x) (hv64 : ∀ x ∈ vs, okV x) (hn : ls.length + vs.length + rgn ls + cln vs ≤ 20000) :
    Ctr Try.prog 17 #[lv, vv] [] (fun w => RdL (fun _ => True) lv ls w ∧ RdV (fun _ => True) vv vs w)
      (fun r d => (∃ o v, eAll ls vs = some o ∧ r = .tuple #[v, .int .i64 0] ∧ Sl 5 1 v o.length (by8 o) d) ∨ ∃ k : Int, k ≠ 0 ∧ r = .tuple #[.slice none 0 0, .int .i64 k] ∧ eAll ls vs = none ∧ d = []) := by
  intro w0 hp hro
  have hs : St w0 (ks []) [] w0 := St.start w0
  have hrl := hro.1.lt
  have hrv := hro.2.lt
  obtain ⟨la, lcap, rfl, _⟩ := hro.1
  obtain ⟨va, vcap, rfl, _⟩ := hro.2
  refine calls_W (n := 19) Try.func17 rfl Try.ntmps17 (by simp) ?_
  refine W_seq ?_
  -- region 0
  refine W_region (by decide +kernel) ?_
  refine sq_e rfl (o_box (cs := [.slice la ls.length lcap]) hs rfl ?_); intro lb w hs
  refine sq_e rfl (o_box (cs := [.slice va vs.length vcap]) hs rfl ?_); intro vb w hs
  refine sq_r r_assign rfl ?_
  refine sq_r r_assign rfl ?_
  refine sq_z ?_
  refine W_seq ?_
  -- region 1
  refine W_region (by decide +kernel) ?_
  refine sq_r (r_buildL (ps := []) rfl (build79 _)) rfl ?_
  refine sq_e rfl (o_box (cs := [.slice none 0 0]) hs rfl ?_); intro wb w hs
  refine sq_e rfl (o_alloc hs ty77 ?_); intro pb w hs
  refine sq_e rfl (o_store (i := 3) (vs := [.pointer (some ⟨wb, 0, none⟩)]) hs rfl rfl ty77 rfl (by simp [Value.oneCell']) (by simp) ?_); intro w hs
  refine sq_z ?_
  have hs : St w0 (ks []) [[(lb, cb [.slice la ls.length lcap] 28)], [(vb, cb [.slice va vs.length vcap] 41)], [(wb, cb [.slice none 0 0] 79)], [(pb, cb [.pointer (some ⟨wb, 0, none⟩)] 77)]] w := hs
  have hnd := hs.nodup
  have hne : lb ≠ wb ∧ vb ≠ wb ∧ pb ≠ wb := by
    simp only [ks, List.flatten_cons, List.flatten_nil, List.append_nil, List.cons_append, List.nil_append, List.map_cons, List.map_nil, List.nodup_cons, List.mem_cons, List.not_mem_nil, or_false, not_or] at hnd
    exact ⟨hnd.1.2.1, hnd.2.1.1, fun h => hnd.2.2.1 h.symm⟩
  have hout : ∀ b, b < w0.heap.size → b ∉ ks [(wb, cb [Value.slice none 0 0] 79)] := fun b h hb => St.out hs ⟨by simp [ks], h⟩ (ks_mem (i := 2) rfl hb)
  have hwk : WK wb [] [(wb, cb [.slice none 0 0] 79)] := ⟨.slice none 0 0, [], rfl, rfl, .inl ⟨rfl, rfl, rfl, rfl⟩⟩
  have h27 := f27_calls pb lb vb wb (.slice la ls.length lcap) (.slice va vs.length vcap) ls vs _ hwk hl64 hv64 hn
  have h26 := f26_calls (cap := [.pointer (some ⟨pb, 0, none⟩), .pointer (some ⟨lb, 0, none⟩), .pointer (some ⟨vb, 0, none⟩)]) cb27 h27 (fun w w' ls h hs => h.keep hs fun _ _ => by simp)
  refine W_seq ?_
  -- region 2
  refine W_region (by decide +kernel) ?_
  refine sq_r r_mf rfl ?_
  refine sq_e rfl (o_call (i := 2) cb26 rfl rfl h26 hs rfl ⟨⟨At.one (hs.own (i := 3) rfl) rfl, by simpa [ks] using hne.2.2⟩, ⟨At.one (hs.own (i := 0) rfl) rfl, by simpa [ks] using hne.1⟩, ⟨At.one (hs.own (i := 1) rfl) rfl, by simpa [ks] using hne.2.1⟩,
    (hrl.keep hs fun _ _ => by simp [ks]).mono fun b h => hout b h.2, (hrv.keep hs fun _ _ => by simp [ks]).mono fun b h => hout b h.2⟩ ?_)
  rintro r c' w hr hs
  have hs : St w0 (ks []) [[(lb, cb [.slice la ls.length lcap] 28)], [(vb, cb [.slice va vs.length vcap] 41)], c', [(pb, cb [.pointer (some ⟨wb, 0, none⟩)] 77)]] w := hs
  refine sq_r r_assign rfl ?_
  refine sq_z ?_
  refine W_seq ?_
  refine W_seq ?_
  rcases hr with ⟨rfl, _, _, o, heo, v, bc, hce, hsl⟩ | ⟨k, hk, rfl, hbad, rfl⟩
  · -- region 3
    refine W_region (by decide +kernel) ?_
    refine sq_r r_move rfl ?_
    refine sq_r (r_cmp (r := false) rfl rfl (by simp [cmpB])) rfl ?_
    refine sq_z ?_
    refine W_cond rfl rfl (fun hc => ?_) (fun hc => ?_)
    · cases hc
    refine W_skip ?_
    refine W_seq ?_
    -- region 5
    refine W_region (by decide +kernel) ?_
    refine sq_r (r_load1 rfl ty77 (At.one (hs.own (i := 3) rfl) rfl)) rfl ?_
    refine sq_r (r_nilCheck rfl) rfl ?_
    refine sq_r (r_field rfl fa79_0) rfl ?_
    refine sq_r (r_load1 rfl ty42 (At.one (v := v) ((hs.at (i := 2) rfl).has (wb, cb [v] 79) (by rw [hce]; simp)) rfl)) rfl ?_
    refine sq_r r_assign rfl ?_
    refine sq_r r_assign rfl ?_
    refine sq_z ?_
    refine W_ret ?_
    refine ret2 (v := v) (v' := .int .i64 0) rfl (by decide) (by decide) rfl rfl (fin (c' := bc) hs (.inl ⟨o, v, heo, rfl, hsl⟩) ?_)
    rw [hce]
    simp only [List.flatten_cons, List.flatten_nil, List.append_nil, List.cons_append, List.nil_append]
    exact .cons _ (.cons _ (.cons _ (List.sublist_append_left _ _)))
  · -- region 3
    refine W_region (by decide +kernel) ?_
    refine sq_r r_move rfl ?_
    refine sq_r (r_cmp (r := true) rfl rfl (by simp [cmpB, hk])) rfl ?_
    refine sq_z ?_
    refine W_cond rfl rfl (fun hc => ?_) (fun hc => ?_)
    · refine W_seq ?_
      -- region 4
      refine W_region (by decide +kernel) ?_
      refine sq_r r_move rfl ?_
      refine sq_r r_assign rfl ?_
      refine sq_r r_assign rfl ?_
      refine sq_z ?_
      refine W_ret ?_
      repeat with_reducible first | refine thenQ_ret ?_ | refine blockQ_ret ?_
      exact ret2 (v := .slice none 0 0) (v' := .int .i64 k) rfl (by decide) (by decide) rfl rfl (fin (c' := []) hs (.inr ⟨k, hk, rfl, hbad, rfl⟩) (by simp))
    · cases hc

end Go.Proofs.Ytfojeengapebmaa
