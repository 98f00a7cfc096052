/-
  Layer 17: the reader: sources. Condition: the bytes are not many.
-/
import Derived.Test.YtfojeengapebmaaNums
namespace Go.Proofs.Ytfojeengapebmaa
open Go.Eng

theorem r_mf1 {P : Program} {w : World} {f : Fm} {d : Option Nat} {ty : TypeId} {pos : String} {after : Array Edge} {g : Option (Nat × Bool)} {fn : Fn} {fst : List Operand} : (execOp (ev f) ⟨d, .makeFunc fn fst.toArray #[], ty, pos, after, g⟩).run P w = .ok (.value (.func fn (fst.map (ev f)).toArray #[])) w := by
  simp only [execOp, Sem.run_bind, List.map_toArray]
  rfl
theorem dB_rest {l r : List Int} {n i : Nat} (hl : isB l) (h : dB i l = some (n, r)) : isB r ∧ r.length + 1 ≤ l.length := by
  obtain ⟨e, _⟩ := enc_dB l i n r hl h
  have h1 := encB_pos n
  subst e
  exact ⟨hl.right, by rw [List.length_append]; omega⟩
theorem dNum_rest {l r : List Int} {n : Int} (hl : isB l) (h : dNum l = some (n, r)) : isB r ∧ r.length + 1 ≤ l.length := by
  obtain ⟨⟨m, r1⟩, hm, h2⟩ := Option.bind_eq_some_iff.1 h
  split at h2
  · simp only [Option.some.injEq, Prod.mk.injEq] at h2
    rw [← h2.2]
    exact dB_rest hl hm
  · cases h2
theorem dSig_rest {l r : List Int} {n : Int} (hl : isB l) (h : dSig l = some (n, r)) : isB r ∧ r.length + 1 ≤ l.length := by
  obtain ⟨⟨m, r1⟩, hm, h2⟩ := Option.map_eq_some_iff.1 h
  simp only [Prod.mk.injEq] at h2
  rw [← h2.2]
  exact dB_rest hl hm
theorem dL_bad {α : Type} {d : List Int → Option (α × List Int)} {n m : Nat} {l rest : List Int} {done : List α} (h : dL d n l = (dL d (m + 1) rest).map fun p => (done ++ p.1, p.2)) (hx : d rest = none) : dL d n l = none := by
  rw [h]; simp only [dL]; rw [hx]; rfl
theorem dL_next {α : Type} {d : List Int → Option (α × List Int)} {n m : Nat} {l rest r : List Int} {done : List α} {x : α} (h : dL d n l = (dL d (m + 1) rest).map fun p => (done ++ p.1, p.2)) (hx : d rest = some (x, r)) : dL d n l = (dL d m r).map fun p => ((done ++ [x]) ++ p.1, p.2) := by
  rw [h]; simp only [dL]; rw [hx]
  simp only [Option.bind_some, Option.map_map]
  congr 1
  funext p
  simp
theorem build69 (w : World) (k : Int) : (Instr.build 69 #[(0, .int .i64 k)]).run Try.prog w = .ok (.agg (ic [k, 0, 0, 0]).toArray) w := by kernel_rfl
theorem sl_more {v : Value} {lc : Ck} {xs : List Sc} {x : Sc} (h : Sl 69 4 v (xs.length + 1) (xs.flatMap scF ++ scF x) lc) : Sl 69 4 v (xs ++ [x]).length ((xs ++ [x]).flatMap scF) lc := by
  simpa using h

set_option maxRecDepth 20000 in
set_option maxHeartbeats 4000000 in
theorem f33_calls (rb : Nat) (v0 : Value) (l : List Int) (hl : isB l) (hlen : l.length ≤ 100000) : CtrT Try.prog thr 33 #[.pointer (some ⟨rb, 0, none⟩)] [(rb, cb [v0] 85)] (RB (· ∉ [rb]) v0 l)
    (fun r c' => ∃ xs rest v' lc, dSrcs l = some (xs, rest) ∧ xs.length + rest.length ≤ l.length ∧ Sl 69 4 r xs.length (xs.flatMap scF) lc ∧ c' = [(rb, cb [v'] 85)] ++ lc ∧ ∀ B w, RB B v0 l w → RB B v' rest w) (dSrcs l = none) := by
  intro w0 hp hro
  have hs := hp.st
  have hmax : 4000000 ≤ maxLen := by decide +kernel
  have hR : ∀ {v' : Value} {rest : List Int} {w : World} {cs : List Ck}, (∀ B w, RB B v0 l w → RB B v' rest w) → St w0 (ks [(rb, cb [v0] 85)]) cs w → RB (· ∉ [rb]) v' rest w := fun h hs => h _ _ (hro.keep hs fun _ h => h)
  refine calls_W (n := 44) Try.func33 rfl Try.ntmps33 (by simp) ?_
  refine W_seq ?_
  -- region 0
  refine W_region (by decide +kernel) ?_
  refine sq_r r_assign rfl ?_
  refine sq_z ?_
  refine W_seq ?_
  -- region 1
  refine W_region (by decide +kernel) ?_
  refine sq_r r_move rfl ?_
  refine sq_r r_mf1 rfl ?_
  refine sq_r r_move rfl ?_
  refine sq_r r_mf1 rfl ?_
  refine sq_r r_assign rfl ?_
  refine sq_r r_assign rfl ?_
  refine sq_z ?_
  refine W_seq ?_
  -- region 2
  refine W_region (by decide +kernel) ?_
  refine sq_r r_assign rfl ?_
  refine sq_z ?_
  refine W_seq ?_
  refine W_seq ?_
  -- region 3
  refine W_region (by decide +kernel) ?_
  refine sq_r r_move rfl ?_
  refine sq_e rfl (o_callTC (i := 0) (fst := [.pointer (some ⟨rb, 0, none⟩)]) (cap := []) cb32 rfl rfl (f32_calls rb v0 l hl) hs rfl hro (fun k w hk hb hs => .inr ⟨k, hk, rfl, by unfold dSrcs; rw [hb]; rfl, hs⟩) ?_)
  rintro v c' w ⟨n, r1, v1, hn, rfl, rfl, hv1⟩ hs
  obtain ⟨hg0, hg1⟩ := num_ge hn
  obtain ⟨hb1, hl1⟩ := dNum_rest hl hn
  have hfin : dSrcs l = dL dSrc n.toNat r1 := by unfold dSrcs; rw [hn]; rfl
  refine sq_r r_assign rfl ?_
  refine sq_z ?_
  refine W_block ?_ -- 0
  -- LOOP
  refine W_loop (fun (m : Nat) f w => ∃ (g : Fm) (v' lv : Value) (rest : List Int) (done : List Sc) (lc : Ck), f = ov [(3, .func (.func 32) #[.pointer (some ⟨rb, 0, none⟩)] #[]), (4, .func (.func 38) #[.pointer (some ⟨rb, 0, none⟩)] #[]), (5, lv), (6, .int .i64 (m : Int))] g ∧ m ≤ 1099511627776 ∧ dL dSrc n.toNat r1 = (dL dSrc m rest).map (fun p => (done ++ p.1, p.2)) ∧ isB rest ∧ done.length + rest.length ≤ l.length ∧ Sl 69 4 lv done.length (done.flatMap scF) lc ∧ (∀ B w, RB B v0 l w → RB B v' rest w) ∧ St w0 (ks [(rb, cb [v0] 85)]) [[(rb, cb [v'] 85)], lc] w) (fun m => m) n.toNat ?_ ?_
  · exact ⟨_, v1, .slice none 0 0, r1, [], [], ov_self ⟨rfl, rfl, rfl, by show Value.int .i64 n = _; rw [Int.toNat_of_nonneg hg0], trivial⟩, by omega, by simp, hb1, by simp; omega, ⟨rfl, .inl ⟨rfl, rfl, rfl, rfl⟩⟩, hv1, hs.cast (by simp)⟩
  clear hs hb1 hl1 hv1
  rintro m f w ⟨g, v', lv, rest, done, lc, rfl, hm, hdl, hrest, hll, hsl, hrb, hs⟩
  refine W_seq ?_
  refine W_seq ?_
  -- region 4
  refine W_region (by decide +kernel) ?_
  refine sq_r r_move rfl ?_
  refine sq_r (r_cmp rfl rfl rfl) rfl ?_
  refine sq_z ?_
  refine W_cond rfl rfl (fun hd => ?_) (fun hd => ?_)
  · have hm1 : 0 < m := by have := of_decide_eq_true hd; omega
    obtain ⟨j, rfl⟩ : ∃ j, m = j + 1 := ⟨m - 1, by omega⟩
    have hbad : dSrc rest = none → dSrcs l = none := fun h => by rw [hfin]; exact dL_bad hdl h
    refine W_skip ?_
    refine W_seq ?_
    refine W_block ?_ -- 1
    refine W_seq ?_
    -- region 6
    refine W_region (by decide +kernel) ?_
    refine sq_r r_move rfl ?_
    refine sq_e rfl (o_callTC (i := 0) (fst := [.pointer (some ⟨rb, 0, none⟩)]) (cap := []) cb32 rfl rfl (f32_calls rb v' rest hrest) hs rfl (hR hrb hs) (fun k w hk hb hs => .inr ⟨k, hk, rfl, hbad (by unfold dSrc; rw [hb]; rfl), hs⟩) ?_)
    rintro v c' w ⟨k, r2, v2, hk, rfl, rfl, hv2⟩ hs
    obtain ⟨hb2, hl2⟩ := dNum_rest hrest hk
    have hds : dSrc rest = if k ≤ 2 then (if k = 0 then (dSig r2).bind fun a => (dSig a.2).map fun b => (sc 0 a.1 b.1 0, b.2) else (dNum r2).map fun n => (sc k 0 0 n.1, n.2)) else none := by unfold dSrc; rw [hk]; rfl
    refine sq_r (r_buildL (ps := [(0, .int .i64 k)]) rfl (build69 _ k)) rfl ?_
    refine sq_e rfl (o_alloc hs ty69 ?_); intro b7 w hs
    refine sq_e rfl (o_store (i := 2) (vs := ic [k, 0, 0, 0]) hs rfl rfl ty69 rfl (ic_one _) (by simp [ic]) ?_); intro w hs
    refine sq_z ?_
    have hs : St w0 (ks [(rb, cb [v0] 85)]) [[(rb, cb [v2] 85)], lc, [(b7, cb (ic [k, 0, 0, 0]) 69)]] w := hs
    refine W_seq ?_
    -- region 7
    refine W_region (by decide +kernel) ?_
    refine sq_r (r_field rfl fa69_0) rfl ?_
    refine sq_r (r_load1 rfl ty3 (At.one (v := .int .i64 k) (hs.own (i := 2) rfl) rfl)) rfl ?_
    refine sq_r (r_cmp (r := decide (k ≤ 2)) rfl rfl rfl) rfl ?_
    refine sq_e rfl (o_callT0 cb30 rfl rfl (f30_calls (decide (k ≤ 2)) 170 (by decide)) hs trivial (fun k w hk hb hs => .inr ⟨k, hk, rfl, hbad (by rw [hds, if_neg (of_decide_eq_false hb)]), hs⟩) ?_)
    rintro v w ⟨rfl, hk2⟩ hs
    rw [if_pos (of_decide_eq_true hk2)] at hds
    refine sq_z ?_
    refine W_mid (M := fun f w => ∃ (g : Fm) (x : Sc) (r3 : List Int) (v3 : Value), f = ov [(3, .func (.func 32) #[.pointer (some ⟨rb, 0, none⟩)] #[]), (4, .func (.func 38) #[.pointer (some ⟨rb, 0, none⟩)] #[]), (5, lv), (6, .int .i64 ((j + 1 : Nat) : Int)), (7, .pointer (some ⟨b7, 0, none⟩))] g ∧ dSrc rest = some (x, r3) ∧ isB r3 ∧ r3.length + 1 ≤ rest.length ∧ (∀ B w, RB B v' rest w → RB B v3 r3 w) ∧ St w0 (ks [(rb, cb [v0] 85)]) [[(rb, cb [v3] 85)], lc, [(b7, cb (scF x) 69)]] w) ?_ (fun f w hM => ?_)
    · refine W_seq ?_
      -- region 8
      refine W_region (by decide +kernel) ?_
      refine sq_r (r_field rfl fa69_0) rfl ?_
      refine sq_r (r_load1 rfl ty3 (At.one (v := .int .i64 k) (hs.own (i := 2) rfl) rfl)) rfl ?_
      refine sq_r (r_cmp rfl rfl rfl) rfl ?_
      refine sq_z ?_
      refine W_cond rfl rfl (fun hq => ?_) (fun hq => ?_)
      · have hq : k = 0 := of_decide_eq_true hq
        rw [if_pos hq] at hds
        subst hq
        refine W_seq ?_
        -- region 9
        refine W_region (by decide +kernel) ?_
        refine sq_r r_move rfl ?_
        refine sq_e rfl (o_callTC (i := 0) (fst := [.pointer (some ⟨rb, 0, none⟩)]) (cap := []) cb38 rfl rfl (f38_calls rb v2 r2 hb2) hs rfl (hR (fun B w h => hv2 B w (hrb B w h)) hs) (fun k w hk hb hs => .inr ⟨k, hk, rfl, hbad (by rw [hds, hb]; rfl), hs⟩) ?_)
        rintro v c' w ⟨a, r4, v4, ha, rfl, rfl, hv4⟩ hs
        obtain ⟨hb4, hl4⟩ := dSig_rest hb2 ha
        rw [ha] at hds
        refine sq_r (r_field rfl fa69_1) rfl ?_
        refine sq_r (r_field rfl fa45_0) rfl ?_
        refine sq_e rfl (o_store (i := 2) (vs := [.int .i64 a]) hs rfl rfl ty3 rfl (by simp [Value.oneCell']) (by simp [ic]) ?_); intro w hs
        refine sq_z ?_
        have hs : St w0 (ks [(rb, cb [v0] 85)]) [[(rb, cb [v4] 85)], lc, [(b7, cb (ic [0, a, 0, 0]) 69)]] w := hs
        -- region 10
        refine W_region (by decide +kernel) ?_
        refine sq_r r_move rfl ?_
        refine sq_e rfl (o_callTC (i := 0) (fst := [.pointer (some ⟨rb, 0, none⟩)]) (cap := []) cb38 rfl rfl (f38_calls rb v4 r4 hb4) hs rfl (hR (fun B w h => hv4 B w (hv2 B w (hrb B w h))) hs) (fun k w hk hb hs => .inr ⟨k, hk, rfl, hbad (by rw [hds]; simp only [Option.bind_some]; rw [hb]; rfl), hs⟩) ?_)
        rintro v c' w ⟨b, r5, v5, hb, rfl, rfl, hv5⟩ hs
        obtain ⟨hb5, hl5⟩ := dSig_rest hb4 hb
        simp only [Option.bind_some] at hds
        rw [hb] at hds
        refine sq_r (r_field rfl fa69_1) rfl ?_
        refine sq_r (r_field rfl fa45_1) rfl ?_
        refine sq_e rfl (o_store (i := 2) (vs := [.int .i64 b]) hs rfl rfl ty2 rfl (by simp [Value.oneCell']) (by simp [ic]) ?_); intro w hs
        refine sq_z ?_
        exact ⟨_, sc 0 a b 0, r5, v5, ov_self ⟨rfl, rfl, rfl, rfl, rfl, trivial⟩, hds, hb5, by omega, fun B w h => hv5 B w (hv4 B w (hv2 B w h)), hs⟩
      · have hq : ¬ k = 0 := of_decide_eq_false hq
        rw [if_neg hq] at hds
        -- region 11
        refine W_region (by decide +kernel) ?_
        refine sq_r r_move rfl ?_
        refine sq_e rfl (o_callTC (i := 0) (fst := [.pointer (some ⟨rb, 0, none⟩)]) (cap := []) cb32 rfl rfl (f32_calls rb v2 r2 hb2) hs rfl (hR (fun B w h => hv2 B w (hrb B w h)) hs) (fun k w hk hb hs => .inr ⟨k, hk, rfl, hbad (by rw [hds, hb]; rfl), hs⟩) ?_)
        rintro v c' w ⟨a, r4, v4, ha, rfl, rfl, hv4⟩ hs
        obtain ⟨hb4, hl4⟩ := dNum_rest hb2 ha
        rw [ha] at hds
        refine sq_r (r_field rfl fa69_2) rfl ?_
        refine sq_e rfl (o_store (i := 2) (vs := [.int .i64 a]) hs rfl rfl ty3 rfl (by simp [Value.oneCell']) (by simp [ic]) ?_); intro w hs
        refine sq_z ?_
        exact ⟨_, sc k 0 0 a, r4, v4, ov_self ⟨rfl, rfl, rfl, rfl, rfl, trivial⟩, hds, hb4, by omega, fun B w h => hv4 B w (hv2 B w h), hs⟩
    obtain ⟨g, x, r3, v3, rfl, hx, hb3, hl3, hv3, hs⟩ := hM
    -- region 12
    refine W_region (by decide +kernel) ?_
    refine sq_r r_move rfl ?_
    refine sq_r (r_loadN (vs := scF x) rfl ty69 (scF_len x) (At.of_block (hs.own (i := 2) rfl) (by rw [List.drop_zero, List.take_length]))) rfl ?_
    refine sq_e rfl (o_buildN [.agg (scF x).toArray] [scF x] sl37 ty69 hs rfl rfl rfl (by simp) (by simp) ?_); intro b9 w hs
    refine sq_e rfl (o_append (i := 1) (m := 1) (news := scF x) (soff := 0) (sb := b9) (scap := 1) sl37 ty69 rfl hs rfl rfl rfl hsl (by simp) (At.of_block (hs.own (i := 3) rfl) (by simp only [List.drop_zero, List.flatten_cons, List.flatten_nil, List.append_nil, List.take_length])) (scF_one x) (by omega) (by omega) ?_)
    intro lv1 lc1 w hsl1 hs
    refine sq_r r_assign rfl ?_
    refine sq_z ?_
    -- region 5
    refine W_region (by decide +kernel) ?_
    refine sq_r r_move rfl ?_
    refine sq_r (r_sub (c := (j : Int)) rfl rfl (by rw [wrap_small (by omega) (by omega)]; omega)) rfl ?_
    refine sq_r r_assign rfl ?_
    refine sq_z ?_
    exact ⟨j, ⟨_, v3, lv1, r3, done ++ [x], lc1, ov_self ⟨rfl, rfl, rfl, rfl, trivial⟩, by omega, dL_next hdl hx, hb3, by rw [List.length_append]; simp only [List.length_cons, List.length_nil]; omega, sl_more hsl1, fun B w h => hv3 B w (hrb B w h), hs.keep (by simp)⟩, by omega⟩
  · have hm0 : m = 0 := by have := of_decide_eq_false hd; omega
    subst hm0
    refine W_exit ?_ -- 0
    refine W_seq ?_
    -- region 13
    refine W_region (by decide +kernel) ?_
    refine sq_r r_move rfl ?_
    refine sq_r r_assign rfl ?_
    refine sq_z ?_
    refine W_ret ?_
    refine ret1 (v := lv) rfl (by decide) rfl (finT (c' := [(rb, cb [v'] 85)] ++ lc) hs ⟨done, rest, v', lc, ?_, hll, hsl, rfl, hrb⟩ (by simp))
    rw [hfin, hdl]
    simp [dL]

end Go.Proofs.Ytfojeengapebmaa
