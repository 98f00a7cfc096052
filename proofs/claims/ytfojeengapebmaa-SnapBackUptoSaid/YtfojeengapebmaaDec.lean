/-
  Layer 17: what Decode does under guard. Condition: the bytes are not many.
-/
import Derived.Test.YtfojeengapebmaaText
import Derived.Test.YtfojeengapebmaaLinks
namespace Go.Proofs.Ytfojeengapebmaa
open Go.Eng

theorem RB.mono {B B' : Nat → Prop} {v : Value} {l : List Int} {w : World} (h : RB B v l w) (hB : ∀ b, B b → B' b) : RB B' v l w := by
  obtain ⟨a, cap, hv, hl, hall⟩ := h
  refine ⟨a, cap, hv, hl, fun i x hi => ?_⟩
  obtain ⟨b, off, ha, hb, hc⟩ := hall i x hi
  exact ⟨b, off, ha, hB b hb, hc⟩
theorem build39 (w : World) (a : Int) : (Instr.build 39 #[(0, .int .i64 a)]).run Try.prog w = .ok (.agg (lkC ⟨a, 0, 0, 0, []⟩ (.slice none 0 0)).toArray) w := by kernel_rfl
theorem st_perm {w0 w : World} {F0 : List Nat} {ls ls' : List Ck} (h : St w0 F0 ls w) (hp : ls.flatten.Perm ls'.flatten) : St w0 F0 ls' w :=
  ⟨fun p hp' => h.has p (hp.mem_iff.2 hp'), (hp.map _).nodup_iff.1 h.nodup, fun b hb => h.fresh b ((hp.map _).mem_iff.2 hb), h.os, h.tape, h.output, h.size, h.old⟩
abbrev Vp := Vt × Value
def vpC (p : Vp) : List Value := vtC p.1 p.2
def Rgv (ps : List Vp) (dc : Ck) : Prop := ∀ p ∈ ps, ∀ w, Hp dc w → RdS (· ∈ ks dc) p.2 p.1.cells w
theorem Rgv.add {ps : List Vp} {dc d : Ck} (h : Rgv ps dc) {x : Vt} {v : Value} (hv : Sl 69 4 v x.cells.length (x.cells.flatMap scF) d) : Rgv (ps ++ [(x, v)]) (dc ++ d) := by
  intro p hp w hw
  rcases List.mem_append.1 hp with hp | hp
  · exact (h p hp w (Hp.left hw)).mono fun b hb => by simp [ks] at hb ⊢; exact .inl hb
  · simp at hp
    subst hp
    have := sl_rd scF_len (by decide) hv (Hp.right hw)
    exact RdS.mono this fun b hb => by simp [ks] at hb ⊢; exact .inr hb
theorem build76 (w : World) (a : Int) : (Instr.build 76 #[(0, .int .i64 a)]).run Try.prog w = .ok (.agg (vtC ⟨a, []⟩ (.slice none 0 0)).toArray) w := by kernel_rfl
/-- The reader and the two results. -/
def dcC (rb lb vb : Nat) (v0 : Value) : Ck := [(rb, cb [v0] 85), (lb, cb [.slice none 0 0] 28), (vb, cb [.slice none 0 0] 41)]

set_option maxRecDepth 20000 in
set_option maxHeartbeats 4000000 in
theorem f31_calls (pb rb lb vb : Nat) (v0 : Value) (l : List Int) (hl : isB l) (hlen : l.length ≤ 100000) :
    CtrT Try.prog thr 31 #[.pointer (some ⟨pb, 0, none⟩), .pointer (some ⟨lb, 0, none⟩), .pointer (some ⟨vb, 0, none⟩)] (dcC rb lb vb v0)
      (fun w => (w.cell? ⟨pb, 0, none⟩ = some (.pointer (some ⟨rb, 0, none⟩)) ∧ pb ∉ ks (dcC rb lb vb v0)) ∧ RB (· ∉ ks (dcC rb lb vb v0)) v0 l w)
      (fun v c' => v = .tuple #[] ∧ ∃ (ps : List Pr) (qs : List Vp) (v' lv vv : Value) (lc dc vc ec : Ck), dAll l = some (ps.map (·.1), qs.map (·.1)) ∧ ps.length + rgn (ps.map (·.1)) + (qs.length + cln (qs.map (·.1))) ≤ l.length ∧ Sl 39 5 lv ps.length (ps.flatMap prC) lc ∧ Rgs ps dc ∧ Sl 76 2 vv qs.length (qs.flatMap vpC) vc ∧ Rgv qs ec ∧
        c' = [(rb, cb [v'] 85)] ++ ([(lb, cb [lv] 28)] ++ ([(vb, cb [vv] 41)] ++ (lc ++ (dc ++ (vc ++ ec)))))) (dAll l = none) := by
  intro w0 hp hro
  have hmax : 4000000 ≤ maxLen := by decide +kernel
  have hs : St w0 (ks (dcC rb lb vb v0)) [[(rb, cb [v0] 85)], [(lb, cb [.slice none 0 0] 28)], [(vb, cb [.slice none 0 0] 41)]] w0 := hp.st.cast (by simp [dcC])
  have hP : ∀ {w : World} {cs : List Ck}, St w0 (ks (dcC rb lb vb v0)) cs w → w.cell? ⟨pb, 0, none⟩ = some (.pointer (some ⟨rb, 0, none⟩)) := fun hs => keepC hro.1.1 hs hro.1.2
  have hR : ∀ {v' : Value} {rest : List Int} {w : World} {cs : List Ck}, (∀ B w, RB B v0 l w → RB B v' rest w) → St w0 (ks (dcC rb lb vb v0)) cs w → RB (· ∉ [rb]) v' rest w := fun h hs =>
    (h _ _ (hro.2.keep hs fun _ h => h)).mono fun b hb hm => hb (by simp at hm; simp [ks, dcC, hm])
  refine calls_W (n := 57) Try.func31 rfl Try.ntmps31 (by simp) ?_
  refine W_seq ?_
  refine W_seq ?_
  -- region 0
  refine W_region (by decide +kernel) ?_
  refine sq_r (r_load1 rfl ty84 (hP hs)) rfl ?_
  refine sq_e rfl (o_callT (i := 0) cb32 rfl rfl (f32_calls rb v0 l hl) hs rfl (hR (fun _ _ h => h) hs) (fun k w hk hb hs => .inr ⟨k, hk, rfl, by unfold dAll dLks; rw [hb]; rfl, hs⟩) ?_)
  rintro v c' w ⟨n, r1, v1, hn, rfl, rfl, hv1⟩ hs
  obtain ⟨hg0, hg1⟩ := num_ge hn
  obtain ⟨hb1, hl1⟩ := dNum_rest hl hn
  have hfin : dLks l = dL dLk n.toNat r1 := by unfold dLks; rw [hn]; rfl
  have hnone : dL dLk n.toNat r1 = none → dAll l = none := fun h => by unfold dAll; rw [hfin, h]; rfl
  refine sq_r r_assign rfl ?_
  refine sq_z ?_
  refine W_block ?_ -- 0
  refine W_loop (fun (m : Nat) f w => ∃ (g : Fm) (v' lv : Value) (rest : List Int) (ps : List Pr) (lc dc : Ck), f = ov [(0, .pointer (some ⟨pb, 0, none⟩)), (1, .pointer (some ⟨lb, 0, none⟩)), (2, .pointer (some ⟨vb, 0, none⟩)), (3, .int .i64 (m : Int))] g ∧ m ≤ 1099511627776 ∧ dL dLk n.toNat r1 = (dL dLk m rest).map (fun p => (ps.map (·.1) ++ p.1, p.2)) ∧ isB rest ∧ ps.length + rgn (ps.map (·.1)) + rest.length ≤ l.length ∧ Sl 39 5 lv ps.length (ps.flatMap prC) lc ∧ Rgs ps dc ∧ (∀ B w, RB B v0 l w → RB B v' rest w) ∧ St w0 (ks (dcC rb lb vb v0)) [[(rb, cb [v'] 85)], [(lb, cb [lv] 28)], [(vb, cb [.slice none 0 0] 41)], lc, dc] w) (fun m => m) n.toNat ?_ ?_
  · exact ⟨_, v1, .slice none 0 0, r1, [], [], [], ov_self ⟨rfl, rfl, rfl, by show Value.int .i64 n = _; rw [Int.toNat_of_nonneg hg0], trivial⟩, by omega, by simp, hb1, by simp [rgn]; omega, ⟨rfl, .inl ⟨rfl, rfl, rfl, rfl⟩⟩, (fun p hp => by cases hp), hv1, hs.cast (by simp)⟩
  clear hs hb1 hl1 hv1
  rintro m f w ⟨g, v', lv, rest, ps, lc, dc, rfl, hm, hdl, hrest, hll, hsl, hrg, hrb, hs⟩
  refine W_seq ?_
  refine W_seq ?_
  -- region 1
  refine W_region (by decide +kernel) ?_
  refine sq_r r_move rfl ?_
  refine sq_r (r_cmp rfl rfl rfl) rfl ?_
  refine sq_z ?_
  refine W_cond rfl rfl (fun hd => ?_) (fun hd => ?_)
  · have hm1 : 0 < m := by have := of_decide_eq_true hd; omega
    obtain ⟨j, rfl⟩ : ∃ j, m = j + 1 := ⟨m - 1, by omega⟩
    have hbad : dLk rest = none → dAll l = none := fun h => hnone (dL_bad hdl h)
    refine W_skip ?_
    refine W_seq ?_
    refine W_block ?_ -- 1
    refine W_seq ?_
    -- region 3
    refine W_region (by decide +kernel) ?_
    refine sq_r (r_load1 rfl ty84 (hP hs)) rfl ?_
    refine sq_e rfl (o_callT (i := 0) cb32 rfl rfl (f32_calls rb v' rest hrest) hs rfl (hR hrb hs) (fun k w hk hb hs => .inr ⟨k, hk, rfl, hbad (by simp only [dLk, hb, Option.bind_none]), hs⟩) ?_)
    rintro v c' w ⟨n1, r1, w1, ha1, rfl, rfl, hv1⟩ hs
    obtain ⟨hb1, hl1⟩ := dNum_rest hrest ha1
    obtain ⟨hg1, hh1⟩ := num_ge ha1
    have ht1 : ∀ B w, RB B v0 l w → RB B w1 r1 w := fun B w h => hv1 B w (hrb B w h)
    refine sq_r (r_sub (c := n1 - 1) rfl rfl (wrap_small (by omega) (by omega))) rfl ?_
    refine sq_r (r_buildL (ps := [(0, .int .i64 (n1 - 1))]) rfl (build39 _ _)) rfl ?_
    refine sq_e rfl (o_alloc hs ty39 ?_); intro b4 w hs
    refine sq_e rfl (o_store (i := 5) (vs := lkC ⟨n1 - 1, 0, 0, 0, []⟩ (.slice none 0 0)) hs rfl rfl ty39 rfl (lk_one rfl) (by simp [lkC]) ?_); intro w hs
    refine sq_z ?_
    have hs : St w0 (ks (dcC rb lb vb v0)) [[(rb, cb [w1] 85)], [(lb, cb [lv] 28)], [(vb, cb [.slice none 0 0] 41)], lc, dc, [(b4, cb (lkC ⟨n1 - 1, 0, 0, 0, []⟩ (.slice none 0 0)) 39)]] w := hs
    refine W_seq ?_
    -- region 4
    refine W_region (by decide +kernel) ?_
    refine sq_r (r_load1 rfl ty84 (hP hs)) rfl ?_
    refine sq_e rfl (o_callT (i := 0) cb32 rfl rfl (f32_calls rb w1 r1 hb1) hs rfl (hR ht1 hs) (fun k w hk hb hs => .inr ⟨k, hk, rfl, hbad (by simp only [dLk, ha1, hb, Option.bind_some, Option.bind_none]), hs⟩) ?_)
    rintro v c' w ⟨n2, r2, w2, ha2, rfl, rfl, hv2⟩ hs
    obtain ⟨hb2, hl2⟩ := dNum_rest hb1 ha2
    obtain ⟨hg2, hh2⟩ := num_ge ha2
    have ht2 : ∀ B w, RB B v0 l w → RB B w2 r2 w := fun B w h => hv2 B w (ht1 B w h)
    refine sq_r (r_field rfl fa39_1) rfl ?_
    refine sq_e rfl (o_store (i := 5) (vs := [.int .i64 (n2)]) hs rfl rfl ty3 rfl (by simp [Value.oneCell']) (by simp [lkC]) ?_); intro w hs
    refine sq_z ?_
    have hs : St w0 (ks (dcC rb lb vb v0)) [[(rb, cb [w2] 85)], [(lb, cb [lv] 28)], [(vb, cb [.slice none 0 0] 41)], lc, dc, [(b4, cb (lkC ⟨n1 - 1, n2, 0, 0, []⟩ (.slice none 0 0)) 39)]] w := hs
    refine W_seq ?_
    -- region 5
    refine W_region (by decide +kernel) ?_
    refine sq_r (r_load1 rfl ty84 (hP hs)) rfl ?_
    refine sq_e rfl (o_callT (i := 0) cb32 rfl rfl (f32_calls rb w2 r2 hb2) hs rfl (hR ht2 hs) (fun k w hk hb hs => .inr ⟨k, hk, rfl, hbad (by simp only [dLk, ha1, ha2, hb, Option.bind_some, Option.bind_none]), hs⟩) ?_)
    rintro v c' w ⟨n3, r3, w3, ha3, rfl, rfl, hv3⟩ hs
    obtain ⟨hb3, hl3⟩ := dNum_rest hb2 ha3
    obtain ⟨hg3, hh3⟩ := num_ge ha3
    have ht3 : ∀ B w, RB B v0 l w → RB B w3 r3 w := fun B w h => hv3 B w (ht2 B w h)
    refine sq_r (r_field rfl fa39_2) rfl ?_
    refine sq_e rfl (o_store (i := 5) (vs := [.int .i64 (n3)]) hs rfl rfl ty3 rfl (by simp [Value.oneCell']) (by simp [lkC]) ?_); intro w hs
    refine sq_z ?_
    have hs : St w0 (ks (dcC rb lb vb v0)) [[(rb, cb [w3] 85)], [(lb, cb [lv] 28)], [(vb, cb [.slice none 0 0] 41)], lc, dc, [(b4, cb (lkC ⟨n1 - 1, n2, n3, 0, []⟩ (.slice none 0 0)) 39)]] w := hs
    refine W_seq ?_
    -- region 6
    refine W_region (by decide +kernel) ?_
    refine sq_r (r_load1 rfl ty84 (hP hs)) rfl ?_
    refine sq_e rfl (o_callT (i := 0) cb32 rfl rfl (f32_calls rb w3 r3 hb3) hs rfl (hR ht3 hs) (fun k w hk hb hs => .inr ⟨k, hk, rfl, hbad (by simp only [dLk, ha1, ha2, ha3, hb, Option.bind_some, Option.bind_none]), hs⟩) ?_)
    rintro v c' w ⟨n4, r4, w4, ha4, rfl, rfl, hv4⟩ hs
    obtain ⟨hb4, hl4⟩ := dNum_rest hb3 ha4
    obtain ⟨hg4, hh4⟩ := num_ge ha4
    have ht4 : ∀ B w, RB B v0 l w → RB B w4 r4 w := fun B w h => hv4 B w (ht3 B w h)
    refine sq_r (r_sub (c := n4 - 1) rfl rfl (wrap_small (by omega) (by omega))) rfl ?_
    refine sq_r (r_field rfl fa39_3) rfl ?_
    refine sq_e rfl (o_store (i := 5) (vs := [.int .i64 (n4 - 1)]) hs rfl rfl ty3 rfl (by simp [Value.oneCell']) (by simp [lkC]) ?_); intro w hs
    refine sq_z ?_
    have hs : St w0 (ks (dcC rb lb vb v0)) [[(rb, cb [w4] 85)], [(lb, cb [lv] 28)], [(vb, cb [.slice none 0 0] 41)], lc, dc, [(b4, cb (lkC ⟨n1 - 1, n2, n3, n4 - 1, []⟩ (.slice none 0 0)) 39)]] w := hs
    refine W_seq ?_
    -- region 7
    refine W_region (by decide +kernel) ?_
    refine sq_r (r_load1 rfl ty84 (hP hs)) rfl ?_
    refine sq_e rfl (o_callT (i := 0) cb33 rfl rfl (f33_calls rb w4 r4 hb4 (by omega)) hs rfl (hR ht4 hs) (fun k w hk hb hs => .inr ⟨k, hk, rfl, hbad (by simp only [dLk, ha1, ha2, ha3, ha4, hb, Option.bind_some, Option.map_none]), hs⟩) ?_)
    rintro v c' w ⟨xs, r5, w5, qc, hsx, hlx, hslx, rfl, hv5⟩ hs
    have hs : St w0 (ks (dcC rb lb vb v0)) [[(rb, cb [w5] 85)], qc, [(lb, cb [lv] 28)], [(vb, cb [.slice none 0 0] 41)], lc, dc, [(b4, cb (lkC ⟨n1 - 1, n2, n3, n4 - 1, []⟩ (.slice none 0 0)) 39)]] w := hs.cast (by simp)
    have hone := sl_one hslx
    refine sq_r (r_field rfl fa39_4) rfl ?_
    refine sq_e rfl (o_store (i := 6) (vs := [v]) hs rfl hone.2 ty37 rfl (by simpa using hone.1) (by simp [lkC]) ?_); intro w hs
    refine sq_z ?_
    have hs : St w0 (ks (dcC rb lb vb v0)) [[(rb, cb [w5] 85)], qc, [(lb, cb [lv] 28)], [(vb, cb [.slice none 0 0] 41)], lc, dc, [(b4, cb (lkC ⟨n1 - 1, n2, n3, n4 - 1, xs⟩ v) 39)]] w := hs
    obtain ⟨X, hX⟩ : ∃ X : Lk, X = ⟨n1 - 1, n2, n3, n4 - 1, xs⟩ := ⟨_, rfl⟩
    have hx : dLk rest = some (X, r5) := by rw [hX]; simp only [dLk, ha1, ha2, ha3, ha4, hsx, Option.bind_some, Option.map_some]
    have hXr : X.regs = xs := by rw [hX]
    rw [← hX] at hs
    have hb5 : isB r5 := by
      obtain ⟨o, _, e⟩ := srcs_bw _ _ _ hb4 hsx
      rw [e] at hb4
      exact hb4.right
    -- region 8
    refine W_region (by decide +kernel) ?_
    refine sq_r (r_load1 rfl ty28 (At.one (v := lv) (hs.own (i := 2) rfl) rfl)) rfl ?_
    refine sq_r (r_loadN (vs := lkC X v) rfl ty39 rfl (At.of_block (hs.own (i := 6) rfl) (by rw [List.drop_zero, List.take_length]))) rfl ?_
    refine sq_e rfl (o_buildN [.agg (lkC X v).toArray] [lkC X v] sl28 ty39 hs rfl rfl rfl (by simp [lkC]) (by simp) ?_); intro b9 w hs
    refine sq_e rfl (o_append (i := 4) (m := 1) (news := lkC X v) (soff := 0) (sb := b9) (scap := 1) sl28 ty39 rfl hs rfl rfl rfl hsl (by simp [lkC]) (At.of_block (hs.own (i := 7) rfl) (by simp only [List.drop_zero, List.flatten_cons, List.flatten_nil, List.append_nil, List.take_length])) (lk_one hone.1) (by omega) (by omega) ?_)
    intro lv1 lc1 w hsl1 hs
    refine sq_e rfl (o_store (i := 2) (vs := [lv1]) hs rfl (sl_one hsl1).2 ty28 rfl (by simpa using (sl_one hsl1).1) (by simp) ?_); intro w hs
    refine sq_z ?_
    have hs : St w0 (ks (dcC rb lb vb v0)) [[(rb, cb [w5] 85)], qc, [(lb, cb [lv1] 28)], [(vb, cb [.slice none 0 0] 41)], lc1, dc] w := hs.keep (by simp [spl])
    have hrg1 : rgn ((ps ++ [(X, v)]).map (·.1)) = rgn (ps.map (·.1)) + xs.length := by simp [rgn, hXr]
    -- region 2
    refine W_region (by decide +kernel) ?_
    refine sq_r r_move rfl ?_
    refine sq_r (r_sub (c := (j : Int)) rfl rfl (by rw [wrap_small (by omega) (by omega)]; omega)) rfl ?_
    refine sq_r r_assign rfl ?_
    refine sq_z ?_
    refine ⟨j, ⟨_, w5, lv1, r5, ps ++ [(X, v)], lc1, dc ++ qc, ov_self ⟨rfl, rfl, rfl, rfl, trivial⟩, by omega, by rw [List.map_append]; exact dL_next hdl hx, hb5, by rw [hrg1, List.length_append]; simp only [List.length_cons, List.length_nil]; omega, by simpa [prC] using hsl1, hrg.add (by rw [hXr]; exact hslx), fun B w h => hv5 B w (ht4 B w h), st_perm hs ?_⟩, by omega⟩
    simp only [List.flatten_cons, List.flatten_nil, List.append_nil, List.cons_append, List.nil_append]
    exact (List.perm_append_comm.trans (by simp)).cons _
  · have hm0 : m = 0 := by have := of_decide_eq_false hd; omega
    subst hm0
    have hl1 : dLks l = some (ps.map (·.1), rest) := by rw [hfin, hdl]; simp [dL]
    clear hfin hnone hdl hn hg0 hg1
    refine W_exit ?_ -- 0
    refine W_seq ?_
    refine W_seq ?_
    -- region 9
    refine W_region (by decide +kernel) ?_
    refine sq_r (r_load1 rfl ty84 (hP hs)) rfl ?_
    refine sq_e rfl (o_callT (i := 0) cb32 rfl rfl (f32_calls rb v' rest hrest) hs rfl (hR hrb hs) (fun k w hk hb hs => .inr ⟨k, hk, rfl, by unfold dAll dVts; rw [hl1]; simp only [Option.bind_some]; rw [hb]; rfl, hs⟩) ?_)
    rintro v c' w ⟨n, r1, v1, hn, rfl, rfl, hv1⟩ hs
    obtain ⟨hg0, hg1⟩ := num_ge hn
    obtain ⟨hb1, hl2⟩ := dNum_rest hrest hn
    have hfin : dVts rest = dL dVt n.toNat r1 := by unfold dVts; rw [hn]; rfl
    have hnone : dL dVt n.toNat r1 = none → dAll l = none := fun h => by unfold dAll; rw [hl1]; simp only [Option.bind_some]; rw [hfin, h]; rfl
    have hrb1 : ∀ B w, RB B v0 l w → RB B v1 r1 w := fun B w h => hv1 B w (hrb B w h)
    refine sq_r r_assign rfl ?_
    refine sq_z ?_
    refine W_block ?_ -- 2
    refine W_loop (fun (m : Nat) f w => ∃ (g : Fm) (v' vv : Value) (rest : List Int) (qs : List Vp) (vc ec : Ck), f = ov [(0, .pointer (some ⟨pb, 0, none⟩)), (1, .pointer (some ⟨lb, 0, none⟩)), (2, .pointer (some ⟨vb, 0, none⟩)), (5, .int .i64 (m : Int))] g ∧ m ≤ 1099511627776 ∧ dL dVt n.toNat r1 = (dL dVt m rest).map (fun p => (qs.map (·.1) ++ p.1, p.2)) ∧ isB rest ∧ ps.length + rgn (ps.map (·.1)) + (qs.length + cln (qs.map (·.1))) + rest.length ≤ l.length ∧ Sl 76 2 vv qs.length (qs.flatMap vpC) vc ∧ Rgv qs ec ∧ (∀ B w, RB B v0 l w → RB B v' rest w) ∧ St w0 (ks (dcC rb lb vb v0)) [[(rb, cb [v'] 85)], [(lb, cb [lv] 28)], [(vb, cb [vv] 41)], lc, dc, vc, ec] w) (fun m => m) n.toNat ?_ ?_
    · exact ⟨_, v1, .slice none 0 0, r1, [], [], [], ov_self ⟨rfl, rfl, rfl, by show Value.int .i64 n = _; rw [Int.toNat_of_nonneg hg0], trivial⟩, by omega, by simp, hb1, by simp [cln]; omega, ⟨rfl, .inl ⟨rfl, rfl, rfl, rfl⟩⟩, (fun p hp => by cases hp), hrb1, hs.cast (by simp)⟩
    clear hs hb1 hl2 hv1 hrb1 hrb hrest hll
    rintro m f w ⟨g, v', vv, rest, qs, vc, ec, rfl, hm, hdl, hrest, hll, hsv, hrv, hrb, hs⟩
    refine W_seq ?_
    refine W_seq ?_
    -- region 10
    refine W_region (by decide +kernel) ?_
    refine sq_r r_move rfl ?_
    refine sq_r (r_cmp rfl rfl rfl) rfl ?_
    refine sq_z ?_
    refine W_cond rfl rfl (fun hd => ?_) (fun hd => ?_)
    · have hm1 : 0 < m := by have := of_decide_eq_true hd; omega
      obtain ⟨j, rfl⟩ : ∃ j, m = j + 1 := ⟨m - 1, by omega⟩
      have hbad : dVt rest = none → dAll l = none := fun h => hnone (dL_bad hdl h)
      refine W_skip ?_
      refine W_seq ?_
      refine W_block ?_ -- 3
      refine W_seq ?_
      -- region 12
      refine W_region (by decide +kernel) ?_
      refine sq_r (r_load1 rfl ty84 (hP hs)) rfl ?_
      refine sq_e rfl (o_callT (i := 0) cb32 rfl rfl (f32_calls rb v' rest hrest) hs rfl (hR hrb hs) (fun k w hk hb hs => .inr ⟨k, hk, rfl, hbad (by simp only [dVt, hb, Option.bind_none]), hs⟩) ?_)
      rintro v c' w ⟨n1, r2, w1, ha1, rfl, rfl, hv1⟩ hs
      obtain ⟨hb1, hl2⟩ := dNum_rest hrest ha1
      have ht1 : ∀ B w, RB B v0 l w → RB B w1 r2 w := fun B w h => hv1 B w (hrb B w h)
      refine sq_r (r_buildL (ps := [(0, .int .i64 n1)]) rfl (build76 _ _)) rfl ?_
      refine sq_e rfl (o_alloc hs ty76 ?_); intro b6 w hs
      refine sq_e rfl (o_store (i := 7) (vs := vtC ⟨n1, []⟩ (.slice none 0 0)) hs rfl rfl ty76 rfl (vt_one rfl) (by simp [vtC]) ?_); intro w hs
      refine sq_z ?_
      have hs : St w0 (ks (dcC rb lb vb v0)) [[(rb, cb [w1] 85)], [(lb, cb [lv] 28)], [(vb, cb [vv] 41)], lc, dc, vc, ec, [(b6, cb (vtC ⟨n1, []⟩ (.slice none 0 0)) 76)]] w := hs
      refine W_seq ?_
      -- region 13
      refine W_region (by decide +kernel) ?_
      refine sq_r (r_load1 rfl ty84 (hP hs)) rfl ?_
      refine sq_e rfl (o_callT (i := 0) cb33 rfl rfl (f33_calls rb w1 r2 hb1 (by omega)) hs rfl (hR ht1 hs) (fun k w hk hb hs => .inr ⟨k, hk, rfl, hbad (by simp only [dVt, ha1, hb, Option.bind_some, Option.map_none]), hs⟩) ?_)
      rintro v c' w ⟨xs, r5, w5, qc, hsx, hlx, hslx, rfl, hv5⟩ hs
      have hs : St w0 (ks (dcC rb lb vb v0)) [[(rb, cb [w5] 85)], qc, [(lb, cb [lv] 28)], [(vb, cb [vv] 41)], lc, dc, vc, ec, [(b6, cb (vtC ⟨n1, []⟩ (.slice none 0 0)) 76)]] w := hs.cast (by simp)
      have hone := sl_one hslx
      refine sq_r (r_field rfl fa76_1) rfl ?_
      refine sq_e rfl (o_store (i := 8) (vs := [v]) hs rfl hone.2 ty37 rfl (by simpa using hone.1) (by simp [vtC]) ?_); intro w hs
      refine sq_z ?_
      have hs : St w0 (ks (dcC rb lb vb v0)) [[(rb, cb [w5] 85)], qc, [(lb, cb [lv] 28)], [(vb, cb [vv] 41)], lc, dc, vc, ec, [(b6, cb (vtC ⟨n1, xs⟩ v) 76)]] w := hs
      have hx : dVt rest = some (⟨n1, xs⟩, r5) := by simp only [dVt, ha1, hsx, Option.bind_some, Option.map_some]
      have hb5 : isB r5 := by
        obtain ⟨o, _, e⟩ := srcs_bw _ _ _ hb1 hsx
        rw [e] at hb1
        exact hb1.right
      -- region 14
      refine W_region (by decide +kernel) ?_
      refine sq_r (r_load1 rfl ty41 (At.one (v := vv) (hs.own (i := 3) rfl) rfl)) rfl ?_
      refine sq_r (r_loadN (vs := vtC ⟨n1, xs⟩ v) rfl ty76 rfl (At.of_block (hs.own (i := 8) rfl) (by rw [List.drop_zero, List.take_length]))) rfl ?_
      refine sq_e rfl (o_buildN [.agg (vtC ⟨n1, xs⟩ v).toArray] [vtC ⟨n1, xs⟩ v] sl41 ty76 hs rfl rfl rfl (by simp [vtC]) (by simp) ?_); intro b9 w hs
      refine sq_e rfl (o_append (i := 6) (m := 1) (news := vtC ⟨n1, xs⟩ v) (soff := 0) (sb := b9) (scap := 1) sl41 ty76 rfl hs rfl rfl rfl hsv (by simp [vtC]) (At.of_block (hs.own (i := 9) rfl) (by simp only [List.drop_zero, List.flatten_cons, List.flatten_nil, List.append_nil, List.take_length])) (vt_one hone.1) (by omega) (by omega) ?_)
      intro vv1 vc1 w hsv1 hs
      refine sq_e rfl (o_store (i := 3) (vs := [vv1]) hs rfl (sl_one hsv1).2 ty41 rfl (by simpa using (sl_one hsv1).1) (by simp) ?_); intro w hs
      refine sq_z ?_
      have hs : St w0 (ks (dcC rb lb vb v0)) [[(rb, cb [w5] 85)], qc, [(lb, cb [lv] 28)], [(vb, cb [vv1] 41)], lc, dc, vc1, ec] w := hs.keep (by simp [spl])
      have hcl1 : cln ((qs ++ [((⟨n1, xs⟩ : Vt), v)]).map (·.1)) = cln (qs.map (·.1)) + xs.length := by simp [cln]
      -- region 11
      refine W_region (by decide +kernel) ?_
      refine sq_r r_move rfl ?_
      refine sq_r (r_sub (c := (j : Int)) rfl rfl (by rw [wrap_small (by omega) (by omega)]; omega)) rfl ?_
      refine sq_r r_assign rfl ?_
      refine sq_z ?_
      refine ⟨j, ⟨_, w5, vv1, r5, qs ++ [(⟨n1, xs⟩, v)], vc1, ec ++ qc, ov_self ⟨rfl, rfl, rfl, rfl, trivial⟩, by omega, by rw [List.map_append]; exact dL_next hdl hx, hb5, by rw [hcl1, List.length_append]; simp only [List.length_cons, List.length_nil]; omega, by simpa [vpC] using hsv1, hrv.add hslx, fun B w h => hv5 B w (ht1 B w h), st_perm hs ?_⟩, by omega⟩
      simp only [List.flatten_cons, List.flatten_nil, List.append_nil, List.cons_append, List.nil_append]
      exact (List.perm_append_comm.trans (by simp)).cons _
    · have hm0 : m = 0 := by have := of_decide_eq_false hd; omega
      subst hm0
      have hda : dAll l = if rest = [] then some (ps.map (·.1), qs.map (·.1)) else none := by unfold dAll; rw [hl1]; simp only [Option.bind_some]; rw [hfin, hdl]; simp only [dL, Option.map_some, Option.bind_some, List.append_nil]
      have hR0 := hR hrb hs
      obtain ⟨a, cap, rfl, _, _⟩ := hR0
      refine W_exit ?_ -- 2
      -- region 15
      refine W_region (by decide +kernel) ?_
      refine sq_r (r_load1 rfl ty84 (hP hs)) rfl ?_
      refine sq_r (r_nilCheck rfl) rfl ?_
      refine sq_r (r_field rfl fa85_0) rfl ?_
      refine sq_r (r_load1 rfl ty42 (At.one (hs.own (i := 0) rfl) rfl)) rfl ?_
      refine sq_r (r_lenS Try.underlying42 rfl) rfl ?_
      refine sq_r (r_cmp (r := decide ((rest.length : Int) = 0)) rfl rfl rfl) rfl ?_
      refine sq_e rfl (o_callT0 cb30 rfl rfl (f30_calls (decide ((rest.length : Int) = 0)) 170 (by decide)) hs trivial (fun k w hk hb hs => .inr ⟨k, hk, rfl, by rw [hda, if_neg]; intro h; rw [h] at hb; exact absurd hb (by decide), hs⟩) ?_)
      rintro v w ⟨rfl, hz⟩ hs
      have hz := of_decide_eq_true hz
      rw [if_pos (List.length_eq_zero_iff.1 (by omega))] at hda
      refine sq_z ?_
      exact ret0 rfl (finT (c' := [(rb, cb [.slice a rest.length cap] 85)] ++ ([(lb, cb [lv] 28)] ++ ([(vb, cb [vv] 41)] ++ (lc ++ (dc ++ (vc ++ ec)))))) hs ⟨rfl, ps, qs, _, lv, vv, lc, dc, vc, ec, hda, by omega, hsl, hrg, hsv, hrv, rfl⟩ (by simp))

end Go.Proofs.Ytfojeengapebmaa
