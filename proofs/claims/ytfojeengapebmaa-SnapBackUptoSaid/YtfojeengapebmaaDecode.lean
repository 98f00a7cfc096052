/-
  Layer 17: Decode. Condition: the bytes are not many.
-/
import Derived.Test.YtfojeengapebmaaDec
import Derived.OwnWalk
namespace Go.Proofs.Ytfojeengapebmaa
open Go.Eng

theorem ret3 {P : Program} {f : Fm} {w : World} {fn : Func} {R : Ending → World → Prop} {t u x : Nat} {v v' v'' : Value} (hr : fn.results = #[.tmp t, .tmp u, .tmp x]) (ht : t < fn.ntmps) (hu : u < fn.ntmps) (hx : x < fn.ntmps) (hv : f t = v) (hv' : f u = v') (hv'' : f x = v'') (hR : R (.returned (.tuple #[v, v', v''])) w) : bodyQ fn P R .ret f w := by
  subst hv hv' hv''
  refine ⟨.tuple #[f t, f u, f x], ?_, hR⟩
  rw [results_tmp3 hr]
  simp [fr, ht, hu, hx]
theorem RB.lt {B : Nat → Prop} {v : Value} {l : List Int} {w : World} (h : RB B v l w) : RB (fun b => B b ∧ b < w.heap.size) v l w := by
  obtain ⟨a, cap, hv, hl, hall⟩ := h
  refine ⟨a, cap, hv, hl, fun i x hi => ?_⟩
  obtain ⟨b, off, ha, hb, hc⟩ := hall i x hi
  exact ⟨b, off, ha, ⟨hb, cells_lt hc⟩, hc⟩
theorem build85 (w : World) (a : Option Addr) (n c : Nat) : (Instr.build 85 #[(0, .slice a n c)]).run Try.prog w = .ok (.agg #[.slice a n c]) w := by kernel_rfl

set_option maxRecDepth 20000 in
set_option maxHeartbeats 1000000 in
theorem f18_calls (bv : Value) (l : List Int) (hl : isB l) (hlen : l.length ≤ 100000) :
    Ctr Try.prog 18 #[bv] [] (RB (fun _ => True) bv l)
      (fun r d => (∃ (ps : List Pr) (qs : List Vp) (lv vv : Value) (lc dc vc ec : Ck), dAll l = some (ps.map (·.1), qs.map (·.1)) ∧ ps.length + rgn (ps.map (·.1)) + (qs.length + cln (qs.map (·.1))) ≤ l.length ∧ Sl 39 5 lv ps.length (ps.flatMap prC) lc ∧ Rgs ps dc ∧ Sl 76 2 vv qs.length (qs.flatMap vpC) vc ∧ Rgv qs ec ∧
          r = .tuple #[lv, vv, .int .i64 0] ∧ d = lc ++ (dc ++ (vc ++ ec))) ∨ ∃ k : Int, k ≠ 0 ∧ r = .tuple #[.slice none 0 0, .slice none 0 0, .int .i64 k] ∧ dAll l = none ∧ d = []) := by
  intro w0 hp hro
  have hs : St w0 (ks []) [] w0 := St.start w0
  have hrl := hro.lt
  obtain ⟨a, cap, rfl, _⟩ := hro
  refine calls_W (n := 19) Try.func18 rfl Try.ntmps18 (by simp) ?_
  refine W_seq ?_
  -- region 0
  refine W_region (by decide +kernel) ?_
  refine sq_r r_assign rfl ?_
  refine sq_r r_assign rfl ?_
  refine sq_r r_assign rfl ?_
  refine sq_z ?_
  refine W_seq ?_
  -- region 1
  refine W_region (by decide +kernel) ?_
  refine sq_e rfl (o_alloc hs ty28 ?_); intro lb w hs
  refine sq_z ?_
  refine W_seq ?_
  -- region 2
  refine W_region (by decide +kernel) ?_
  refine sq_e rfl (o_alloc hs ty41 ?_); intro vb w hs
  refine sq_z ?_
  refine W_seq ?_
  -- region 3
  refine W_region (by decide +kernel) ?_
  refine sq_r r_move rfl ?_
  refine sq_r (r_buildL (ps := [(0, .slice a l.length cap)]) rfl (build85 _ _ _ _)) rfl ?_
  refine sq_e rfl (o_box (cs := [.slice a l.length cap]) hs rfl ?_); intro rb w hs
  refine sq_e rfl (o_alloc hs ty84 ?_); intro pb w hs
  refine sq_e rfl (o_store (i := 3) (vs := [.pointer (some ⟨rb, 0, none⟩)]) hs rfl rfl ty84 rfl (by simp [Value.oneCell']) (by simp) ?_); intro w hs
  refine sq_z ?_
  have hs : St w0 (ks []) [[(lb, cb [.slice none 0 0] 28)], [(vb, cb [.slice none 0 0] 41)], [(rb, cb [.slice a l.length cap] 85)], [(pb, cb [.pointer (some ⟨rb, 0, none⟩)] 84)]] w := hs
  have hs : St w0 (ks []) [dcC rb lb vb (.slice a l.length cap), [(pb, cb [.pointer (some ⟨rb, 0, none⟩)] 84)]] w := st_perm hs (by
    simp only [List.flatten_cons, List.flatten_nil, List.append_nil, List.cons_append, List.nil_append, dcC]
    exact (List.perm_append_comm (l₁ := [(lb, cb [Value.slice none 0 0] 28), (vb, cb [Value.slice none 0 0] 41)]) (l₂ := [(rb, cb [Value.slice a l.length cap] 85)])).append_right [(pb, cb [Value.pointer (some ⟨rb, 0, none⟩)] 84)])
  have hnd := hs.nodup
  have hne : pb ∉ ks (dcC rb lb vb (.slice a l.length cap)) := by
    simp only [ks, dcC, List.flatten_cons, List.flatten_nil, List.append_nil, List.cons_append, List.nil_append, List.map_cons, List.map_nil, List.nodup_cons, List.mem_cons, List.not_mem_nil, or_false, not_or] at hnd ⊢
    exact ⟨fun h => hnd.1.2.2 h.symm, fun h => hnd.2.1.2 h.symm, fun h => hnd.2.2.1 h.symm⟩
  have h31 := f31_calls pb rb lb vb (.slice a l.length cap) l hl hlen
  have h26 := f26_calls (cap := [.pointer (some ⟨pb, 0, none⟩), .pointer (some ⟨lb, 0, none⟩), .pointer (some ⟨vb, 0, none⟩)]) cb31 h31 (fun w w' ls h hs => ⟨⟨keepC h.1.1 hs (by simp), h.1.2⟩, h.2.keep hs fun _ _ => by simp⟩)
  refine W_seq ?_
  -- region 4
  refine W_region (by decide +kernel) ?_
  refine sq_r r_mf rfl ?_
  refine sq_e rfl (o_call (i := 0) cb26 rfl rfl h26 hs rfl ⟨⟨At.one (hs.own (i := 1) rfl) rfl, hne⟩, (hrl.keep hs fun _ _ => by simp [ks]).mono fun b h hb => St.out hs ⟨by simp [ks], h.2⟩ (ks_mem (i := 0) rfl hb)⟩ ?_)
  rintro r c' w hr hs
  have hs : St w0 (ks []) [c', [(pb, cb [.pointer (some ⟨rb, 0, none⟩)] 84)]] w := hs
  refine sq_r r_assign rfl ?_
  refine sq_z ?_
  refine W_seq ?_
  refine W_seq ?_
  rcases hr with ⟨rfl, _, _, ps, qs, v', lv, vv, lc, dc, vc, ec, hda, hsz, hsl, hrg, hsv, hrv, rfl⟩ | ⟨k, hk, rfl, hbad, rfl⟩
  · -- region 5
    refine W_region (by decide +kernel) ?_
    refine sq_r r_move rfl ?_
    refine sq_r (r_cmp (r := false) rfl rfl (by simp [cmpB])) rfl ?_
    refine sq_z ?_
    refine W_cond rfl rfl (fun hc => ?_) (fun hc => ?_)
    · cases hc
    refine W_skip ?_
    refine W_seq ?_
    have hs : St w0 (ks []) [[(rb, cb [v'] 85)], [(lb, cb [lv] 28)], [(vb, cb [vv] 41)], lc, dc, vc, ec] w := hs.keep (by simp)
    -- region 7 DRAWS
    refine W_drawM hs Try.mixed [true, true, true, true, true, true, true] [0, 0, 1, 7, 15] [] [0, 1, 2, 3, 4] (by decide +kernel) ?_
    intro w hs; have hR := hs.mask [true, true, true, true, true, true, true]
    refine dq_r hR rfl rfl rfl (fun _ w _ _ hR => r_load1 rfl ty28 (At.one (v := lv) (hR.own (i := 1) rfl) rfl)) ?_
    refine dq_r hR rfl rfl rfl (fun _ w _ _ hR => r_load1 rfl ty41 (At.one (v := vv) (hR.own (i := 2) rfl) rfl)) ?_
    refine dq_r hR rfl rfl rfl (fun _ w _ _ hR => r_assign) ?_
    refine dq_r hR rfl rfl rfl (fun _ w _ _ hR => r_assign) ?_
    refine dq_r hR rfl rfl rfl (fun _ w _ _ hR => r_assign) ?_
    refine dq_z hR ?_
    refine W_ret ?_
    refine ret3 (v := lv) (v' := vv) (v'' := .int .i64 0) rfl (by decide) (by decide) (by decide) rfl rfl rfl (fin (c' := lc ++ (dc ++ (vc ++ ec))) hs (.inl ⟨ps, qs, lv, vv, lc, dc, vc, ec, hda, hsz, hsl, hrg, hsv, hrv, rfl, rfl⟩) ?_)
    simp only [List.flatten_cons, List.flatten_nil, List.append_nil, List.cons_append, List.nil_append]
    exact .cons _ (.cons _ (.cons _ (List.Sublist.refl _)))
  · -- region 5
    refine W_region (by decide +kernel) ?_
    refine sq_r r_move rfl ?_
    refine sq_r (r_cmp (r := true) rfl rfl (by simp [cmpB, hk])) rfl ?_
    refine sq_z ?_
    refine W_cond rfl rfl (fun hc => ?_) (fun hc => ?_)
    · refine W_seq ?_
      -- region 6
      refine W_region (by decide +kernel) ?_
      refine sq_r r_move rfl ?_
      refine sq_r r_assign rfl ?_
      refine sq_r r_assign rfl ?_
      refine sq_r r_assign rfl ?_
      refine sq_z ?_
      refine W_ret ?_
      repeat with_reducible first | refine thenQ_ret ?_ | refine blockQ_ret ?_
      exact ret3 (v := .slice none 0 0) (v' := .slice none 0 0) (v'' := .int .i64 k) rfl (by decide) (by decide) (by decide) rfl rfl rfl (fin (c' := []) hs (.inr ⟨k, hk, rfl, hbad, rfl⟩) (by simp))
    · cases hc

end Go.Proofs.Ytfojeengapebmaa
