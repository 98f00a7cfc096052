/-
  Layer 17: what Encode does under guard. Conditions: what comes in is not much.
-/
import Derived.Test.YtfojeengapebmaaSrcs
import Derived.Test.YtfojeengapebmaaAdd
namespace Go.Proofs.Ytfojeengapebmaa
open Go.Eng

theorem keepC {w0 w : World} {cs : List Ck} {F0 : List Nat} {b o : Nat} {v : Value} (h : w0.cell? ⟨b, o, none⟩ = some v) (hs : St w0 F0 cs w) (hb : b ∉ F0) : w.cell? ⟨b, o, none⟩ = some v := by
  rw [hs.oldcell (cells_lt h) hb]; exact h
def okL (x : Lk) : Prop := In64 x.up ∧ In64 x.fn ∧ In64 x.pc ∧ In64 x.into ∧ ∀ s ∈ x.regs, okF s
def okV (x : Vt) : Prop := In64 x.rc ∧ ∀ s ∈ x.cells, okF s
theorem RdV.keep {B : Nat → Prop} {v : Value} {vs : List Vt} {w0 w : World} {F0 : List Nat} {cs : List Ck} (h : RdV B v vs w0) (hs : St w0 F0 cs w) (hB : ∀ b, B b → b ∉ F0) : RdV B v vs w := by
  obtain ⟨a, cap, hv, hall⟩ := h
  refine ⟨a, cap, hv, fun i x hi => ?_⟩
  obtain ⟨b, off, cv, ha, hb, hat, hr⟩ := hall i x hi
  exact ⟨b, off, cv, ha, hb, at_keep hs (hB b hb) (by simp [vtC]) hat, hr.keep hs hB⟩
theorem lk_one {x : Lk} {rv : Value} (h : rv.oneCell' = true) : ∀ u ∈ lkC x rv, u.oneCell' = true := by
  intro u hu
  simp only [lkC, List.mem_cons, List.not_mem_nil, or_false] at hu
  rcases hu with rfl | rfl | rfl | rfl | rfl <;> first | rfl | exact h
theorem vt_one {x : Vt} {rv : Value} (h : rv.oneCell' = true) : ∀ u ∈ vtC x rv, u.oneCell' = true := by
  intro u hu
  simp only [vtC, List.mem_cons, List.not_mem_nil, or_false] at hu
  rcases hu with rfl | rfl <;> first | rfl | exact h
/-- What Encode's closure reads. -/
structure RoE (pb lb vb wb : Nat) (lv vv : Value) (ls : List Lk) (vs : List Vt) (B : Nat → Prop) (w : World) : Prop where
  p : w.cell? ⟨pb, 0, none⟩ = some (.pointer (some ⟨wb, 0, none⟩)) ∧ B pb
  l : w.cell? ⟨lb, 0, none⟩ = some lv ∧ B lb
  v : w.cell? ⟨vb, 0, none⟩ = some vv ∧ B vb
  rl : RdL B lv ls w
  rv : RdV B vv vs w
theorem RoE.keep {pb lb vb wb : Nat} {lv vv : Value} {ls : List Lk} {vs : List Vt} {B : Nat → Prop} {w0 w : World} {F0 : List Nat} {cs : List Ck} (h : RoE pb lb vb wb lv vv ls vs B w0) (hs : St w0 F0 cs w) (hB : ∀ b, B b → b ∉ F0) : RoE pb lb vb wb lv vv ls vs B w :=
  ⟨⟨keepC h.p.1 hs (hB _ h.p.2), h.p.2⟩, ⟨keepC h.l.1 hs (hB _ h.l.2), h.l.2⟩, ⟨keepC h.v.1 hs (hB _ h.v.2), h.v.2⟩, h.rl.keep hs hB, h.rv.keep hs hB⟩

set_option maxRecDepth 20000 in
set_option maxHeartbeats 4000000 in
theorem f27_calls (pb lb vb wb : Nat) (lv vv : Value) (ls : List Lk) (vs : List Vt) (c : Ck) (hc : WK wb [] c) (hl64 : ∀ x ∈ ls, okL x) (hv64 : ∀ x ∈ vs, okV x) (hn : ls.length + vs.length + rgn ls + cln vs ≤ 20000) :
    CtrT Try.prog thr 27 #[.pointer (some ⟨pb, 0, none⟩), .pointer (some ⟨lb, 0, none⟩), .pointer (some ⟨vb, 0, none⟩)] c (RoE pb lb vb wb lv vv ls vs (· ∉ ks c)) (fun v c' => v = .tuple #[] ∧ ∃ o, eAll ls vs = some o ∧ WK wb o c') (eAll ls vs = none) := by
  intro w0 hp hro
  have hs := hp.st
  have hmax : 4000000 ≤ maxLen := by decide +kernel
  have hK : ∀ {w : World} {cs : List Ck}, St w0 (ks c) cs w → RoE pb lb vb wb lv vv ls vs (· ∉ ks c) w := fun hs => hro.keep hs fun _ h => h
  have hrl := hro.rl
  have hrv := hro.rv
  obtain ⟨la, lcap, rfl, hlall⟩ := hrl
  obtain ⟨va, vcap, rfl, hvall⟩ := hrv
  refine calls_W (n := 64) Try.func27 rfl Try.ntmps27 (by simp) ?_
  refine W_seq ?_
  -- region 0
  refine W_region (by decide +kernel) ?_
  refine sq_r (r_load1 rfl ty77 (hK hs).p.1) rfl ?_
  refine sq_r (r_load1 rfl ty28 (hK hs).l.1) rfl ?_
  refine sq_r (r_lenS Try.underlying28 rfl) rfl ?_
  refine sq_e rfl (o_callT (i := 0) cb28 rfl rfl (f28_calls wb [] c hc ls.length 0 (by constructor <;> omega) (.inl rfl) (by simp)) hs rfl trivial (fun k w hk hb hs => .inr ⟨k, hk, rfl, by unfold eAll eLks; rw [hb]; rfl, hs⟩) ?_)
  rintro v c1 w ⟨rfl, a0, ha0, hc1⟩ hs
  have la0 := eNum_len ha0
  have hfin : ∀ o, eL eLk ls = o → eLks ls = o.map (a0 ++ ·) := fun o h => by unfold eLks; rw [ha0, h]; rfl
  have hnone : eL eLk ls = none → eAll ls vs = none := fun h => by unfold eAll; rw [hfin _ h]; rfl
  refine sq_z ?_
  refine W_seq ?_
  refine W_seq ?_
  -- region 1
  refine W_region (by decide +kernel) ?_
  refine sq_r (r_load1 rfl ty28 (hK hs).l.1) rfl ?_
  refine sq_r (r_lenS Try.underlying28 rfl) rfl ?_
  refine sq_r r_move rfl ?_
  refine sq_z ?_
  refine W_block ?_ -- 0
  -- LOOP
  refine W_loop (fun (i : Nat) f w => ∃ g done c1, f = ov [(0, .pointer (some ⟨pb, 0, none⟩)), (1, .pointer (some ⟨lb, 0, none⟩)), (2, .pointer (some ⟨vb, 0, none⟩)), (11, .slice la ls.length lcap), (12, .int .i64 ls.length), (13, .int .i64 i)] g ∧ i ≤ ls.length ∧ eL eLk ls = (eL eLk (ls.drop i)).map (done ++ ·) ∧ done.length ≤ 50 * i + 30 * rgn (ls.take i) ∧ WK wb (a0 ++ done) c1 ∧ St w0 (ks c) [c1] w) (fun i => ls.length - i) 0 ?_ ?_
  · exact ⟨_, [], c1, ov_self ⟨rfl, rfl, rfl, rfl, rfl, rfl, trivial⟩, Nat.zero_le _, by simp, by simp, by simpa using hc1, hs⟩
  clear hs hc1
  rintro i f w ⟨g, done, c1, rfl, hi, hdone, hdl, hc1, hs⟩
  have hrt := rgn_le ls i
  refine W_seq ?_
  -- region 2
  refine W_region (by decide +kernel) ?_
  refine sq_r (r_cmp rfl rfl rfl) rfl ?_
  refine sq_z ?_
  refine W_seq ?_
  refine W_cond rfl rfl (fun hd => ?_) (fun hd => ?_)
  · have hlt : i < ls.length := by have := of_decide_eq_true hd; omega
    obtain ⟨x, hx⟩ : ∃ x, ls[i]? = some x := ⟨_, List.getElem?_eq_getElem hlt⟩
    obtain ⟨n1, n2, n3, n4, n5⟩ := hl64 x (List.mem_of_getElem? hx)
    have hbad : eLk x = none → eAll ls vs = none := fun h => hnone (eL_bad hx hdone h)
    have hnext := fun o => eL_next (o := o) hx hdone
    have hrx : x.regs.length ≤ rgn ls := by have h1 := rgn_take hx; have h2 := rgn_le ls (i + 1); omega
    have hrt1 := rgn_take hx
    obtain ⟨b, off, rv, rfl, hBb, hat, hrs⟩ := hlall i x hx
    have hat2 : At w b (off + i * 5) (lkC x rv) := at_keep hs hBb (by simp [lkC]) hat
    have hrs2 : ∀ {w : World} {cs : List Ck}, St w0 (ks c) cs w → RdS (· ∉ ks c) rv x.regs w := fun hs => hrs.keep hs fun _ h => h
    have hrv1 : rv.oneCell' = true := by obtain ⟨a, cap, rfl, _⟩ := hrs; rfl
    have hlo : (a0 ++ done).length ≤ 10 + 50 * i + 30 * rgn (ls.take i) := by simp only [List.length_append]; omega
    refine W_skip ?_
    refine W_seq ?_
    refine W_block ?_ -- 1
    refine W_seq ?_
    -- region 3
    refine W_region (by decide +kernel) ?_
    refine sq_r (r_index rfl rfl sl28 (by omega) (by omega)) rfl ?_
    refine sq_r (r_loadN (vs := lkC x rv) rfl ty39 rfl hat2) rfl ?_
    refine sq_e rfl (o_alloc hs ty39 ?_); intro b4 w hs
    refine sq_e rfl (o_store (i := 1) (vs := lkC x rv) hs rfl rfl ty39 rfl (lk_one hrv1) (by simp [lkC]) ?_); intro w hs
    refine sq_z ?_
    have hs : St w0 (ks c) [c1, [(b4, cb (lkC x rv) 39)]] w := hs
    refine W_seq ?_

    -- region 4
    refine W_region (by decide +kernel) ?_
    refine sq_r (r_load1 rfl ty77 (hK hs).p.1) rfl ?_
    refine sq_r (r_field rfl fa39_0) rfl ?_
    refine sq_r (r_load1 rfl ty3 (At.one (v := .int .i64 x.up) (hs.own (i := 1) rfl) rfl)) rfl ?_
    refine sq_e rfl (o_callT (i := 0) cb28 rfl rfl (f28_calls wb _ c1 hc1 x.up (-1) n1 (.inr rfl) (by simp only [List.length_append] at hlo ⊢; omega)) hs rfl trivial (fun k w hk hb hs => .inr ⟨k, hk, rfl, hbad (by simp only [eLk, hb, Option.bind_none]), hs⟩) ?_)
    rintro v c2 w ⟨rfl, o0, ho0, hc2⟩ hs
    have lo0 := eNum_len ho0
    have hs : St w0 (ks c) [c2, [(b4, cb (lkC x rv) 39)]] w := hs
    refine sq_z ?_
    refine W_seq ?_
    -- region 5
    refine W_region (by decide +kernel) ?_
    refine sq_r (r_load1 rfl ty77 (hK hs).p.1) rfl ?_
    refine sq_r (r_field rfl fa39_1) rfl ?_
    refine sq_r (r_load1 rfl ty3 (At.one (v := .int .i64 x.fn) (hs.own (i := 1) rfl) rfl)) rfl ?_
    refine sq_e rfl (o_callT (i := 0) cb28 rfl rfl (f28_calls wb _ c2 hc2 x.fn (0) n2 (.inl rfl) (by simp only [List.length_append] at hlo ⊢; omega)) hs rfl trivial (fun k w hk hb hs => .inr ⟨k, hk, rfl, hbad (by simp only [eLk, ho0, hb, Option.bind_some, Option.bind_none]), hs⟩) ?_)
    rintro v c3 w ⟨rfl, o1, ho1, hc3⟩ hs
    have lo1 := eNum_len ho1
    have hs : St w0 (ks c) [c3, [(b4, cb (lkC x rv) 39)]] w := hs
    refine sq_z ?_
    refine W_seq ?_
    -- region 6
    refine W_region (by decide +kernel) ?_
    refine sq_r (r_load1 rfl ty77 (hK hs).p.1) rfl ?_
    refine sq_r (r_field rfl fa39_2) rfl ?_
    refine sq_r (r_load1 rfl ty3 (At.one (v := .int .i64 x.pc) (hs.own (i := 1) rfl) rfl)) rfl ?_
    refine sq_e rfl (o_callT (i := 0) cb28 rfl rfl (f28_calls wb _ c3 hc3 x.pc (0) n3 (.inl rfl) (by simp only [List.length_append] at hlo ⊢; omega)) hs rfl trivial (fun k w hk hb hs => .inr ⟨k, hk, rfl, hbad (by simp only [eLk, ho0, ho1, hb, Option.bind_some, Option.bind_none]), hs⟩) ?_)
    rintro v c4 w ⟨rfl, o2, ho2, hc4⟩ hs
    have lo2 := eNum_len ho2
    have hs : St w0 (ks c) [c4, [(b4, cb (lkC x rv) 39)]] w := hs
    refine sq_z ?_
    refine W_seq ?_
    -- region 7
    refine W_region (by decide +kernel) ?_
    refine sq_r (r_load1 rfl ty77 (hK hs).p.1) rfl ?_
    refine sq_r (r_field rfl fa39_3) rfl ?_
    refine sq_r (r_load1 rfl ty3 (At.one (v := .int .i64 x.into) (hs.own (i := 1) rfl) rfl)) rfl ?_
    refine sq_e rfl (o_callT (i := 0) cb28 rfl rfl (f28_calls wb _ c4 hc4 x.into (-1) n4 (.inr rfl) (by simp only [List.length_append] at hlo ⊢; omega)) hs rfl trivial (fun k w hk hb hs => .inr ⟨k, hk, rfl, hbad (by simp only [eLk, ho0, ho1, ho2, hb, Option.bind_some, Option.bind_none]), hs⟩) ?_)
    rintro v c5 w ⟨rfl, o3, ho3, hc5⟩ hs
    have lo3 := eNum_len ho3
    have hs : St w0 (ks c) [c5, [(b4, cb (lkC x rv) 39)]] w := hs
    refine sq_z ?_
    -- region 8
    refine W_region (by decide +kernel) ?_
    refine sq_r (r_load1 rfl ty77 (hK hs).p.1) rfl ?_
    refine sq_r (r_field rfl fa39_4) rfl ?_
    refine sq_r (r_load1 rfl ty37 (At.one (v := rv) (hs.own (i := 1) rfl) rfl)) rfl ?_
    refine sq_e rfl (o_callT (i := 0) cb29 rfl rfl (f29_calls wb _ c5 hc5 rv x.regs n5 (by omega) (by simp only [List.length_append] at hlo ⊢; omega)) hs rfl ((hrs.lt.keep hs fun _ h => h.1).mono fun b h hb => St.out hs h (ks_mem (i := 0) rfl hb)) (fun k w hk hb hs => .inr ⟨k, hk, rfl, hbad (by simp only [eLk, ho0, ho1, ho2, ho3, hb, Option.bind_some, Option.map_none]), hs⟩) ?_)
    rintro v c6 w ⟨rfl, o4, ho4, lo4, hc6⟩ hs
    refine sq_z ?_
    have heo : eLk x = some (o0 ++ (o1 ++ (o2 ++ (o3 ++ o4)))) := by simp only [eLk, ho0, ho1, ho2, ho3, ho4, Option.bind_some, Option.map_some]
    -- region 9
    refine W_region (by decide +kernel) ?_
    refine sq_r (r_add rfl rfl (wrap_small (by omega) (by omega))) rfl ?_
    refine sq_r r_move rfl ?_
    refine sq_z ?_
    exact ⟨i + 1, ⟨_, done ++ (o0 ++ (o1 ++ (o2 ++ (o3 ++ o4)))), c6, ov_self ⟨rfl, rfl, rfl, rfl, rfl, rfl, trivial⟩, by omega, hnext _ heo, by simp only [List.length_append]; omega, by simpa using hc6, hs.keep (by simp)⟩, by omega⟩
  have hin : i = ls.length := by have := of_decide_eq_false hd; omega
  subst hin
  have hl1 : eLks ls = some (a0 ++ done) := hfin _ (eL_end hdone)
  clear hfin hnone hdone
  have hal : (a0 ++ done).length ≤ 10 + 50 * ls.length + 30 * rgn ls := by rw [List.take_length] at hdl; simp only [List.length_append]; omega
  obtain ⟨A, hA⟩ : ∃ A, A = a0 ++ done := ⟨_, rfl⟩
  rw [← hA] at hl1 hal hc1
  refine W_exit ?_ -- 0
  refine W_seq ?_
  -- region 10
  refine W_region (by decide +kernel) ?_
  refine sq_r (r_load1 rfl ty77 (hK hs).p.1) rfl ?_
  refine sq_r (r_load1 rfl ty41 (hK hs).v.1) rfl ?_
  refine sq_r (r_lenS Try.underlying41 rfl) rfl ?_
  refine sq_e rfl (o_callT (i := 0) cb28 rfl rfl (f28_calls wb _ c1 hc1 vs.length 0 (by constructor <;> omega) (.inl rfl) (by omega)) hs rfl trivial (fun k w hk hb hs => .inr ⟨k, hk, rfl, by unfold eAll eVts; rw [hl1, hb]; rfl, hs⟩) ?_)
  rintro v c2 w ⟨rfl, b0, hb0, hc2⟩ hs
  have lb0 := eNum_len hb0
  have hfin : ∀ o, eL eVt vs = o → eVts vs = o.map (b0 ++ ·) := fun o h => by unfold eVts; rw [hb0, h]; rfl
  have hnone : eL eVt vs = none → eAll ls vs = none := fun h => by unfold eAll; rw [hl1, hfin _ h]; rfl
  refine sq_z ?_
  refine W_seq ?_
  refine W_seq ?_
  -- region 11
  refine W_region (by decide +kernel) ?_
  refine sq_r (r_load1 rfl ty41 (hK hs).v.1) rfl ?_
  refine sq_r (r_lenS Try.underlying41 rfl) rfl ?_
  refine sq_r r_move rfl ?_
  refine sq_z ?_
  refine W_block ?_ -- 2
  -- LOOP
  refine W_loop (fun (i : Nat) f w => ∃ g done c1, f = ov [(0, .pointer (some ⟨pb, 0, none⟩)), (1, .pointer (some ⟨lb, 0, none⟩)), (2, .pointer (some ⟨vb, 0, none⟩)), (42, .slice va vs.length vcap), (43, .int .i64 vs.length), (44, .int .i64 i)] g ∧ i ≤ vs.length ∧ eL eVt vs = (eL eVt (vs.drop i)).map (done ++ ·) ∧ done.length ≤ 20 * i + 30 * cln (vs.take i) ∧ WK wb (A ++ (b0 ++ done)) c1 ∧ St w0 (ks c) [c1] w) (fun i => vs.length - i) 0 ?_ ?_
  · exact ⟨_, [], c2, ov_self ⟨rfl, rfl, rfl, rfl, rfl, rfl, trivial⟩, Nat.zero_le _, by simp, by simp, by simpa using hc2, hs⟩
  clear hs hc2 hc1 hdl hA done
  rintro i f w ⟨g, done, c1, rfl, hi, hdone, hdl, hc1, hs⟩
  have hrt := cln_le vs i
  refine W_seq ?_
  -- region 12
  refine W_region (by decide +kernel) ?_
  refine sq_r (r_cmp rfl rfl rfl) rfl ?_
  refine sq_z ?_
  refine W_seq ?_
  refine W_cond rfl rfl (fun hd => ?_) (fun hd => ?_)
  · have hlt : i < vs.length := by have := of_decide_eq_true hd; omega
    obtain ⟨x, hx⟩ : ∃ x, vs[i]? = some x := ⟨_, List.getElem?_eq_getElem hlt⟩
    obtain ⟨n1, n5⟩ := hv64 x (List.mem_of_getElem? hx)
    have hbad : eVt x = none → eAll ls vs = none := fun h => hnone (eL_bad hx hdone h)
    have hnext := fun o => eL_next (o := o) hx hdone
    have hrx : x.cells.length ≤ cln vs := by have h1 := cln_take hx; have h2 := cln_le vs (i + 1); omega
    have hrt1 := cln_take hx
    obtain ⟨b, off, rv, rfl, hBb, hat, hrs⟩ := hvall i x hx
    have hat2 : At w b (off + i * 2) (vtC x rv) := at_keep hs hBb (by simp [vtC]) hat
    have hrv1 : rv.oneCell' = true := by obtain ⟨a, cap, rfl, _⟩ := hrs; rfl
    have hlo : (A ++ (b0 ++ done)).length ≤ 20 + 50 * ls.length + 30 * rgn ls + 20 * i + 30 * cln (vs.take i) := by simp only [List.length_append]; omega
    refine W_skip ?_
    refine W_seq ?_
    refine W_block ?_ -- 3
    refine W_seq ?_
    -- region 13
    refine W_region (by decide +kernel) ?_
    refine sq_r (r_index rfl rfl sl41 (by omega) (by omega)) rfl ?_
    refine sq_r (r_loadN (vs := vtC x rv) rfl ty76 rfl hat2) rfl ?_
    refine sq_e rfl (o_alloc hs ty76 ?_); intro b4 w hs
    refine sq_e rfl (o_store (i := 1) (vs := vtC x rv) hs rfl rfl ty76 rfl (vt_one hrv1) (by simp [vtC]) ?_); intro w hs
    refine sq_z ?_
    have hs : St w0 (ks c) [c1, [(b4, cb (vtC x rv) 76)]] w := hs
    refine W_seq ?_
    -- region 14
    refine W_region (by decide +kernel) ?_
    refine sq_r (r_load1 rfl ty77 (hK hs).p.1) rfl ?_
    refine sq_r (r_field rfl fa76_0) rfl ?_
    refine sq_r (r_load1 rfl ty3 (At.one (v := .int .i64 x.rc) (hs.own (i := 1) rfl) rfl)) rfl ?_
    refine sq_e rfl (o_callT (i := 0) cb28 rfl rfl (f28_calls wb _ c1 hc1 x.rc 0 n1 (.inl rfl) (by omega)) hs rfl trivial (fun k w hk hb hs => .inr ⟨k, hk, rfl, hbad (by simp only [eVt, hb, Option.bind_none]), hs⟩) ?_)
    rintro v c2 w ⟨rfl, o0, ho0, hc2⟩ hs
    have lo0 := eNum_len ho0
    have hs : St w0 (ks c) [c2, [(b4, cb (vtC x rv) 76)]] w := hs
    refine sq_z ?_
    -- region 15
    refine W_region (by decide +kernel) ?_
    refine sq_r (r_load1 rfl ty77 (hK hs).p.1) rfl ?_
    refine sq_r (r_field rfl fa76_1) rfl ?_
    refine sq_r (r_load1 rfl ty37 (At.one (v := rv) (hs.own (i := 1) rfl) rfl)) rfl ?_
    refine sq_e rfl (o_callT (i := 0) cb29 rfl rfl (f29_calls wb _ c2 hc2 rv x.cells n5 (by omega) (by simp only [List.length_append] at hlo ⊢; omega)) hs rfl ((hrs.lt.keep hs fun _ h => h.1).mono fun b h hb => St.out hs h (ks_mem (i := 0) rfl hb)) (fun k w hk hb hs => .inr ⟨k, hk, rfl, hbad (by simp only [eVt, ho0, hb, Option.bind_some, Option.map_none]), hs⟩) ?_)
    rintro v c6 w ⟨rfl, o4, ho4, lo4, hc6⟩ hs
    refine sq_z ?_
    have heo : eVt x = some (o0 ++ o4) := by simp only [eVt, ho0, ho4, Option.bind_some, Option.map_some]
    -- region 16
    refine W_region (by decide +kernel) ?_
    refine sq_r (r_add rfl rfl (wrap_small (by omega) (by omega))) rfl ?_
    refine sq_r r_move rfl ?_
    refine sq_z ?_
    exact ⟨i + 1, ⟨_, done ++ (o0 ++ o4), c6, ov_self ⟨rfl, rfl, rfl, rfl, rfl, rfl, trivial⟩, by omega, hnext _ heo, by simp only [List.length_append]; omega, by simpa using hc6, hs.keep (by simp)⟩, by omega⟩
  have hin : i = vs.length := by have := of_decide_eq_false hd; omega
  subst hin
  have hv1 : eVts vs = some (b0 ++ done) := hfin _ (eL_end hdone)
  have hall : eAll ls vs = some (A ++ (b0 ++ done)) := by unfold eAll; rw [hl1, hv1]; rfl
  have hbl : (A ++ (b0 ++ done)).length ≤ 20 + 50 * ls.length + 30 * rgn ls + 20 * vs.length + 30 * cln vs := by rw [List.take_length] at hdl; simp only [List.length_append]; omega
  obtain ⟨v1, bc1, hce, hsl1⟩ := id hc1
  have hlv := Sl.len hsl1
  obtain ⟨sa1, hlv⟩ := hlv
  obtain ⟨sc1, hve⟩ := hlv
  subst hve
  refine W_exit ?_ -- 2
  -- region 17
  refine W_region (by decide +kernel) ?_
  refine sq_r (r_load1 rfl ty77 (hK hs).p.1) rfl ?_
  refine sq_r (r_nilCheck rfl) rfl ?_
  refine sq_r (r_field rfl fa79_0) rfl ?_
  refine sq_r (r_load1 rfl ty42 (At.one (v := .slice sa1 (A ++ (b0 ++ done)).length sc1) ((hs.at (i := 0) rfl).has (wb, cb [.slice sa1 (A ++ (b0 ++ done)).length sc1] 79) (by rw [hce]; simp)) rfl)) rfl ?_
  refine sq_r (r_lenS Try.underlying42 rfl) rfl ?_
  refine sq_r (r_cmp (r := true) rfl rfl (by simp only [cmpB, Option.some.injEq, decide_eq_true_eq]; omega)) rfl ?_
  refine sq_e rfl (o_callT0 cb30 rfl rfl (f30_calls true 2 (by decide)) hs trivial (fun k w hk hb hs => by cases hb) ?_)
  rintro v w ⟨rfl, _⟩ hs
  refine sq_z ?_
  exact ret0 rfl (finT (c' := c1) hs ⟨rfl, _, hall, hc1⟩ (by simp))

end Go.Proofs.Ytfojeengapebmaa
