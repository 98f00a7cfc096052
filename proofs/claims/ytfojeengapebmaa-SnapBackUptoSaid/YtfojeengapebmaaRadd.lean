/-
  Layer 17: the document's book of links (the reference): Add. Conditions: there are few links and registers.
-/
import Derived.Test.YtfojeengapebmaaSames
namespace Go.Proofs.Ytfojeengapebmaa
open Go.Eng

def rB (rb : Nat) (L : List Lk) (c : Ck) : Prop :=
  ∃ v ps lc dc, L = ps.map (·.1) ∧ Sl 39 5 v ps.length (ps.flatMap prC) lc ∧ Rgs ps dc ∧ c = [(rb, cb [v] 30)] ++ (lc ++ dc)
/-- One link: where it stands, or behind all others. -/
def RA (L : List Lk) (up : Int) (x : Lk) (L' : List Lk) (z : Int) : Prop :=
  (∃ i : Nat, L[i]? = some { x with up := up } ∧ L' = L ∧ z = i) ∨ ((∀ l ∈ L, l ≠ { x with up := up }) ∧ L' = L ++ [{ x with up := up }] ∧ z = L.length)
def RAs (L : List Lk) (up : Int) : List Lk → List Lk → Int → Prop
  | [], L', z => L' = L ∧ z = up
  | x :: l, L', z => ∃ L1 z1, RA L up x L1 z1 ∧ RAs L1 z1 l L' z
theorem RAs.snoc : ∀ {l : List Lk} {L : List Lk} {up : Int} {L1 : List Lk} {z1 : Int} {x : Lk} {L2 : List Lk} {z2 : Int}, RAs L up l L1 z1 → RA L1 z1 x L2 z2 → RAs L up (l ++ [x]) L2 z2
  | [], _, _, _, _, _, _, _, ⟨rfl, rfl⟩, h => ⟨_, _, h, rfl, rfl⟩
  | _ :: _, _, _, _, _, _, _, _, ⟨L1, z1, h1, h2⟩, h => ⟨L1, z1, h1, h2.snoc h⟩
theorem RA.len {L L' : List Lk} {up z : Int} {x : Lk} (h : RA L up x L' z) : L'.length ≤ L.length + 1 := by
  rcases h with ⟨_, _, rfl, _⟩ | ⟨_, rfl, _⟩ <;> simp
theorem RA.rg {L L' : List Lk} {up z : Int} {x : Lk} {n : Nat} (h : RA L up x L' z) (hL : ∀ l ∈ L, l.regs.length ≤ n) (hx : x.regs.length ≤ n) : ∀ l ∈ L', l.regs.length ≤ n := by
  rcases h with ⟨_, _, rfl, _⟩ | ⟨_, rfl, _⟩
  · exact hL
  · intro l hl
    rcases List.mem_append.1 hl with hl | hl
    · exact hL l hl
    · simp at hl; subst hl; exact hx
/-- Where the search stands. -/
def Fi (L : List Lk) (x : Lk) (i : Nat) (u : Int) : Prop := (u = -1 ∧ ∀ j, j < i → L[j]? ≠ some x) ∨ ∃ k : Nat, u = k ∧ L[k]? = some x

set_option maxRecDepth 20000 in
set_option maxHeartbeats 2000000 in
theorem f11_calls (rb : Nat) (L : List Lk) (c : Ck) (av : Value) (l : List Lk) (hc : rB rb L c) (hm : L.length + l.length ≤ 1000000) (hL : ∀ y ∈ L, y.regs.length ≤ 1000000) (hl : ∀ y ∈ l, y.regs.length ≤ 1000000) :
    Ctr Try.prog 11 #[.pointer (some ⟨rb, 0, none⟩), av] c (RdL (· ∉ ks c) av l) (fun r c' => ∃ L' z, r = .int .i64 z ∧ RAs L (-1) l L' z ∧ rB rb L' c') := by
  intro w0 hp hrd
  have hs : St w0 (ks c) [c] w0 := hp.st
  have hmax : 2000000 ≤ maxLen := by decide +kernel
  obtain ⟨a, cap, rfl, hall⟩ := hrd.lt
  refine calls_W (n := 61) Try.func11 rfl Try.ntmps11 (by simp) ?_
  refine W_seq ?_
  -- region 0
  refine W_region (by decide +kernel) ?_
  refine sq_r r_assign rfl ?_
  refine sq_z ?_
  refine W_seq ?_
  -- region 1
  refine W_region (by decide +kernel) ?_
  refine sq_r r_assign rfl ?_
  refine sq_z ?_
  refine W_seq ?_
  refine W_seq ?_
  -- region 2
  refine W_region (by decide +kernel) ?_
  refine sq_r r_move rfl ?_
  refine sq_r (r_lenS Try.underlying28 rfl) rfl ?_
  refine sq_r r_move rfl ?_
  refine sq_z ?_
  refine W_block ?_ -- 0
  -- LOOP
  refine W_loop (fun (i : Nat) f w => ∃ g L1 up c1, f = ov [(0, .pointer (some ⟨rb, 0, none⟩)), (5, .int .i64 up), (10, .slice a l.length cap), (11, .int .i64 l.length), (12, .int .i64 i)] g ∧ i ≤ l.length ∧ RAs L (-1) (l.take i) L1 up ∧ L1.length ≤ L.length + i ∧ (∀ y ∈ L1, y.regs.length ≤ 1000000) ∧ rB rb L1 c1 ∧
    St w0 (ks c) [c1] w) (fun i => l.length - i) 0 ?_ ?_
  · exact ⟨_, L, -1, c, ov_self ⟨rfl, rfl, rfl, rfl, rfl, trivial⟩, Nat.zero_le _, ⟨rfl, rfl⟩, Nat.le_refl _, hL, hc, hs⟩
  clear hs
  rintro i f w ⟨g, L1, up, c1, rfl, hi, hra, hL1, hLr, hb, hs⟩
  refine W_seq ?_
  -- region 3
  refine W_region (by decide +kernel) ?_
  refine sq_r (r_cmp rfl rfl rfl) rfl ?_
  refine sq_z ?_
  refine W_seq ?_
  refine W_cond rfl rfl (fun hd => ?_) (fun hd => ?_)
  · have hlt : i < l.length := by have := of_decide_eq_true hd; omega
    obtain ⟨x, hx⟩ : ∃ x, l[i]? = some x := ⟨_, List.getElem?_eq_getElem hlt⟩
    have htake : l.take (i + 1) = l.take i ++ [x] := by rw [List.take_add_one, hx]; rfl
    have hxr := hl x (List.mem_of_getElem? hx)
    obtain ⟨b, off, rv, rfl, hbb, hat0, hrs⟩ := hall i x hx
    obtain ⟨v, ps, lc, dc, hps, hlc, hrg, rfl⟩ := hb
    have hpl : L1.length = ps.length := by rw [hps, List.length_map]
    have hat : At w b (off + i * 5) (lkC x rv) := at_keep hs hbb.1 (by simp [lkC]) hat0
    have hrd : ∀ {cs : List Ck} {w : World}, St w0 (ks c) cs w → RdS (fun b => b ∉ ks c ∧ b < w0.heap.size) rv x.regs w := fun hs => hrs.keep hs (fun b h => h.1)
    obtain ⟨ra, rcap, hrv, _⟩ := id hrs
    subst hrv
    obtain ⟨va, vcap, rfl⟩ := hlc.len
    have hs : St w0 (ks c) [[(rb, cb [.slice va ps.length vcap] 30)], lc, dc] w := hs.cast (by simp)
    refine W_skip ?_
    refine W_seq ?_
    refine W_block ?_ -- 1
    refine W_seq ?_
    -- region 4
    refine W_region (by decide +kernel) ?_
    refine sq_r (r_index rfl rfl sl28 (by omega) (by omega)) rfl ?_
    refine sq_r (r_loadN (vs := lkC x (.slice ra x.regs.length rcap)) rfl ty39 rfl hat) rfl ?_
    refine sq_e rfl (o_alloc hs ty39 ?_); intro b7 w hs
    refine sq_e rfl (o_store (i := 3) (vs := lkC x (.slice ra x.regs.length rcap)) hs rfl rfl ty39 rfl (by simp [lkC, Value.oneCell']) (by simp [lkC]) ?_); intro w hs
    refine sq_z ?_
    refine W_seq ?_
    -- region 5
    refine W_region (by decide +kernel) ?_
    refine sq_r r_move rfl ?_
    refine sq_r (r_field rfl fa39_0) rfl ?_
    refine sq_e rfl (o_store (i := 3) (vs := [.int .i64 up]) hs rfl rfl ty3 rfl (by simp [Value.oneCell']) (by simp [spl, lkC]) ?_); intro w hs
    refine sq_z ?_
    have hs : St w0 (ks c) [[(rb, cb [.slice va ps.length vcap] 30)], lc, dc, [(b7, cb (lkC { x with up := up } (.slice ra x.regs.length rcap)) 39)]] w := hs
    refine W_seq ?_
    -- region 6
    refine W_region (by decide +kernel) ?_
    refine sq_r r_assign rfl ?_
    refine sq_z ?_
    refine W_mid (M := fun f w => ∃ g u, f = ov [(0, .pointer (some ⟨rb, 0, none⟩)), (5, .int .i64 u), (7, .pointer (some ⟨b7, 0, none⟩)), (10, .slice (some ⟨b, off, none⟩) l.length cap), (11, .int .i64 l.length), (12, .int .i64 i)] g ∧ Fi L1 { x with up := up } L1.length u ∧
      St w0 (ks c) [[(rb, cb [.slice va ps.length vcap] 30)], lc, dc, [(b7, cb (lkC { x with up := up } (.slice ra x.regs.length rcap)) 39)]] w) ?_ (fun f w hM => ?_)
    · refine W_seq ?_
      -- region 7
      refine W_region (by decide +kernel) ?_
      refine sq_r r_move rfl ?_
      refine sq_r (r_nilCheck rfl) rfl ?_
      refine sq_r (r_field rfl fa30_0) rfl ?_
      refine sq_r (r_load1 rfl ty28 (At.one (hs.own (i := 0) rfl) rfl)) rfl ?_
      refine sq_r (r_lenS Try.underlying28 rfl) rfl ?_
      refine sq_r r_move rfl ?_
      refine sq_z ?_
      refine W_block ?_ -- 2
      -- LOOP
      refine W_loop (fun (j : Nat) f w => ∃ g u, f = ov [(0, .pointer (some ⟨rb, 0, none⟩)), (5, .int .i64 u), (7, .pointer (some ⟨b7, 0, none⟩)), (10, .slice (some ⟨b, off, none⟩) l.length cap), (11, .int .i64 l.length), (12, .int .i64 i), (21, .slice va ps.length vcap), (22, .int .i64 ps.length), (23, .int .i64 j)] g ∧ j ≤ ps.length ∧ Fi L1 { x with up := up } j u ∧
        St w0 (ks c) [[(rb, cb [.slice va ps.length vcap] 30)], lc, dc, [(b7, cb (lkC { x with up := up } (.slice ra x.regs.length rcap)) 39)]] w) (fun j => ps.length - j) 0 ?_ ?_
      · exact ⟨_, -1, ov_self ⟨rfl, rfl, rfl, rfl, rfl, rfl, rfl, rfl, rfl, trivial⟩, Nat.zero_le _, .inl ⟨rfl, fun j hj => absurd hj (Nat.not_lt_zero j)⟩, hs⟩
      clear hs
      rintro j f w ⟨g, u, rfl, hj, hF, hs⟩
      refine W_seq ?_
      -- region 8
      refine W_region (by decide +kernel) ?_
      refine sq_r (r_cmp rfl rfl rfl) rfl ?_
      refine sq_z ?_
      refine W_seq ?_
      refine W_cond rfl rfl (fun he => ?_) (fun he => ?_)
      · have hjl : j < ps.length := by have := of_decide_eq_true he; omega
        obtain ⟨p, hpj⟩ : ∃ p, ps[j]? = some p := ⟨_, List.getElem?_eq_getElem hjl⟩
        have hLj : L1[j]? = some p.1 := by rw [hps, List.getElem?_map, hpj]; rfl
        obtain ⟨b1, cap1, rest, hve, rfl, hcell, _⟩ := hlc.get prC_len hpj (by decide)
        simp only [Value.slice.injEq, true_and] at hve
        obtain ⟨rfl, rfl⟩ := hve
        obtain ⟨pa, pcap, hpv, _⟩ := hrg p (List.mem_of_getElem? hpj) w (hs.at (i := 2) rfl)
        refine W_skip ?_
        refine W_seq ?_
        refine W_block ?_ -- 3
        refine W_seq ?_
        -- region 9
        refine W_region (by decide +kernel) ?_
        refine sq_r r_move rfl ?_
        refine sq_r (r_index rfl rfl sl28 (by omega) (by omega)) rfl ?_
        refine sq_r (r_loadN (vs := prC p) rfl ty39 rfl (At.of_block (hs.own (i := 1) rfl) (by rw [prC_len, Nat.zero_add]; exact hcell))) rfl ?_
        refine sq_e rfl (o_alloc hs ty39 ?_); intro b9 w hs
        refine sq_r r_assign rfl ?_
        refine sq_e rfl (o_store (i := 4) (vs := prC p) hs rfl rfl ty39 rfl (by simp [prC, lkC, Value.oneCell', hpv]) (by simp [prC, lkC]) ?_); intro w hs
        refine sq_z ?_
        have hs : St w0 (ks c) [[(rb, cb [.slice (some ⟨b1, 0, none⟩) ps.length vcap] 30)], [(b1, cb (ps.flatMap prC ++ rest) 39)], dc, [(b7, cb (lkC { x with up := up } (.slice ra x.regs.length rcap)) 39)], [(b9, cb (prC p) 39)]] w := hs
        refine W_seq ?_
        -- region 10
        refine W_region (by decide +kernel) ?_
        refine sq_r r_move rfl ?_
        rcases hF with ⟨rfl, hF⟩ | ⟨k, rfl, hk⟩
        · refine sq_r (r_cmp (r := true) rfl rfl rfl) rfl ?_
          refine sq_r r_move rfl ?_
          refine sq_r (r_loadN (vs := lkC { x with up := up } (.slice ra x.regs.length rcap)) rfl ty39 rfl (At.of_block (hs.own (i := 3) rfl) rfl)) rfl ?_
          refine sq_r (r_loadN (vs := prC p) rfl ty39 rfl (At.of_block (hs.own (i := 4) rfl) rfl)) rfl ?_
          refine sq_e rfl (o_callN cb23 rfl rfl (Post := fun r _ => ∃ b, r = .bool b ∧ (b = true ↔ { x with up := up } = p.1)) (f23_calls { x with up := up } p.1 _ p.2 (fun _ => True) hxr) hs ⟨(hrd hs).mono fun _ _ => trivial, (hrg p (List.mem_of_getElem? hpj) w (hs.at (i := 2) rfl)).mono fun _ _ => trivial⟩ ?_)
          rintro r w ⟨bo, rfl, hbo⟩ hs
          refine sq_r (r_pick rfl) rfl ?_
          refine sq_z ?_
          refine W_cond rfl rfl (fun hg => ?_) (fun hg => ?_)
          · -- region 11
            refine W_region (by decide +kernel) ?_
            refine sq_r r_move rfl ?_
            refine sq_r r_assign rfl ?_
            refine sq_z ?_
            -- region 12
            refine W_region (by decide +kernel) ?_
            refine sq_r (r_add rfl rfl (wrap_small (by omega) (by omega))) rfl ?_
            refine sq_r r_move rfl ?_
            refine sq_z ?_
            exact ⟨j + 1, ⟨_, (j : Int), ov_self ⟨rfl, rfl, rfl, rfl, rfl, rfl, rfl, rfl, rfl, trivial⟩, by omega, .inr ⟨j, rfl, by rw [hLj, hbo.1 hg]⟩, (hs.mask [true, true, true, true, false]).cast (by simp [zipMask])⟩, by omega⟩
          · refine W_skip ?_
            -- region 12
            refine W_region (by decide +kernel) ?_
            refine sq_r (r_add rfl rfl (wrap_small (by omega) (by omega))) rfl ?_
            refine sq_r r_move rfl ?_
            refine sq_z ?_
            refine ⟨j + 1, ⟨_, -1, ov_self ⟨rfl, rfl, rfl, rfl, rfl, rfl, rfl, rfl, rfl, trivial⟩, by omega, .inl ⟨rfl, fun q hq e => ?_⟩, (hs.mask [true, true, true, true, false]).cast (by simp [zipMask])⟩, by omega⟩
            by_cases hqj : q < j
            · exact hF q hqj e
            · obtain rfl : q = j := by omega
              rw [hLj] at e
              have := hbo.2 (Option.some.inj e).symm
              rw [show bo = false from hg] at this
              cases this
        · refine sq_r (r_cmp (r := false) rfl rfl (by simp [cmpB])) rfl ?_
          refine sq_r r_move rfl ?_
          refine sq_n rfl ?_
          refine sq_n rfl ?_
          refine sq_n rfl ?_
          refine sq_r (r_pick (b := false) rfl) rfl ?_
          refine sq_z ?_
          refine W_cond rfl rfl (fun hg => ?_) (fun hg => ?_)
          · cases hg
          refine W_skip ?_
          -- region 12
          refine W_region (by decide +kernel) ?_
          refine sq_r (r_add rfl rfl (wrap_small (by omega) (by omega))) rfl ?_
          refine sq_r r_move rfl ?_
          refine sq_z ?_
          exact ⟨j + 1, ⟨_, (k : Int), ov_self ⟨rfl, rfl, rfl, rfl, rfl, rfl, rfl, rfl, rfl, trivial⟩, by omega, .inr ⟨k, rfl, hk⟩, (hs.mask [true, true, true, true, false]).cast (by simp [zipMask])⟩, by omega⟩
      · have hje : j = ps.length := by have := of_decide_eq_false he; omega
        subst hje
        refine W_exit ?_ -- 2
        exact ⟨_, u, ov_self ⟨rfl, rfl, rfl, rfl, rfl, rfl, trivial⟩, by rw [hpl]; exact hF, hs⟩
    · obtain ⟨g, u, rfl, hF, hs⟩ := hM
      have hnext : ∀ {L2 : List Lk} {z2 : Int}, RA L1 up x L2 z2 → RAs L (-1) (l.take (i + 1)) L2 z2 := fun h => by rw [htake]; exact hra.snoc h
      refine W_seq ?_
      -- region 13
      refine W_region (by decide +kernel) ?_
      refine sq_r r_move rfl ?_
      rcases hF with ⟨rfl, hF⟩ | ⟨k, rfl, hk⟩
      · have hno : ∀ y ∈ L1, y ≠ { x with up := up } := fun y hy e => by
          obtain ⟨q, hq⟩ := List.mem_iff_getElem?.1 hy
          exact hF q (List.getElem?_eq_some_iff.1 hq).1 (by rw [hq, e])
        have hRA : RA L1 up x (L1 ++ [{ x with up := up }]) L1.length := .inr ⟨hno, rfl, rfl⟩
        refine sq_r (r_cmp (r := true) rfl rfl rfl) rfl ?_
        refine sq_z ?_
        refine W_cond rfl rfl (fun hg => ?_) (fun hg => ?_)
        · have hs : St w0 (ks c) [[(rb, cb [.slice va ps.length vcap] 30)], lc, dc, [(b7, cb (lkC { x with up := up } (.slice ra x.regs.length rcap)) 39)], []] w := hs.cast (by simp)
          refine W_seq ?_
          -- region 14
          refine W_region (by decide +kernel) ?_
          refine sq_r (r_field rfl fa39_4) rfl ?_
          refine sq_r (r_load1 rfl ty37 (At.one (hs.own (i := 3) rfl) rfl)) rfl ?_
          refine sq_e rfl (o_append_rd (i := 4) (n := 0) (zs := []) (xs := x.regs) (F := scF) (B := fun b => b ∉ ks c ∧ b < w0.heap.size) sl37 ty69 rfl scF_len hs rfl rfl (hrd hs) rfl (Sl.nil 69 4) (cat_one scF_one _) (by omega) (by omega) ?_)
          intro nv d w hnv hs
          rw [Nat.zero_add, List.nil_append] at hnv
          obtain ⟨na, ncap, rfl⟩ := hnv.len
          refine sq_r (r_field rfl fa39_4) rfl ?_
          refine sq_e rfl (o_store (i := 3) (vs := [.slice na x.regs.length ncap]) hs rfl rfl ty37 rfl (by simp [Value.oneCell']) (by simp [lkC]) ?_); intro w hs
          refine sq_z ?_
          have hs : St w0 (ks c) [[(rb, cb [.slice va ps.length vcap] 30)], lc, dc, [(b7, cb (lkC { x with up := up } (.slice na x.regs.length ncap)) 39)], d] w := hs
          refine W_seq ?_
          -- region 15 DRAWS
          refine W_drawT hs Try.mixed [true, false, true, true, true] [false, false, true, true, true] 3 [0, 0, 2, 6, 14, 0, 32, 126, 255, 511, 1023] [6, 7, 10] [0, 1, 2, 3, 4, 5, 6, 7, 8, 9, 10] (by decide +kernel) ?_
          intro w hs; have hR := hs.mask [true, false, true, true, true]
          refine dq_rp hR rfl rfl rfl (fun w => r_move) ?_
          refine dq_rp hR rfl rfl rfl (fun w => r_move) ?_
          refine dq_rp hR rfl rfl rfl (fun w => r_nilCheck rfl) ?_
          refine dq_rp hR rfl rfl rfl (fun w => r_field rfl fa30_0) ?_
          refine dq_r1 hR rfl rfl (by decide) rfl (fun w hR => r_load1 rfl ty28 (At.one (hR.own (i := 0) rfl) rfl)) ?_
          refine dq_r1 hR rfl rfl (by decide) rfl (fun w hR => r_loadN (vs := lkC { x with up := up } (.slice na x.regs.length ncap)) rfl ty39 rfl (At.of_block (hR.own (i := 3) rfl) rfl)) ?_
          refine dq_e hR rfl rfl rfl (o_buildN [.agg (lkC { x with up := up } (.slice na x.regs.length ncap)).toArray] [lkC { x with up := up } (.slice na x.regs.length ncap)] sl28 ty39 hs rfl rfl rfl (by simp [lkC]) (by simp) ?_); intro b10 w hs
          have hR := hs.mask [true, false, true, true, true]
          refine dq_e hR rfl rfl rfl (o_append (i := 1) (m := 1) (news := lkC { x with up := up } (.slice na x.regs.length ncap)) (soff := 0) (sb := b10) (scap := 1) sl28 ty39 rfl hs rfl rfl rfl hlc rfl (At.of_block (hs.own (i := 5) rfl) (by simp)) (by simp [lkC, Value.oneCell']) (by omega) (by omega) ?_)
          intro v2 lc2 w hv2 hs
          have hR := hs.mask [true, false, true, true, true]
          refine dq_rp hR rfl rfl rfl (fun w => r_nilCheck rfl) ?_
          refine dq_rp hR rfl rfl rfl (fun w => r_field rfl fa30_0) ?_
          refine dq_e hR rfl rfl rfl (o_store (i := 0) (vs := [v2]) hs rfl (sl_one hv2).2 ty28 rfl (by simpa using (sl_one hv2).1) (by simp) ?_); intro w hs
          have hR := hs.mask [false, false, true, true, true]
          refine dq_z hR ?_
          obtain ⟨va2, vcap2, rfl⟩ := hv2.len
          have hs : St w0 (ks c) [[(rb, cb [.slice va2 (ps.length + 1) vcap2] 30)], lc2, dc, d] w := (hs.mask [true, true, true, false, true, false]).cast (by simp [zipMask, spl])
          -- region 16
          refine W_region (by decide +kernel) ?_
          refine sq_r r_move rfl ?_
          refine sq_r (r_nilCheck rfl) rfl ?_
          refine sq_r (r_field rfl fa30_0) rfl ?_
          refine sq_r (r_load1 rfl ty28 (At.one (hs.own (i := 0) rfl) rfl)) rfl ?_
          refine sq_r (r_lenS Try.underlying28 rfl) rfl ?_
          refine sq_r (r_sub (c := (L1.length : Int)) rfl rfl (by rw [wrap_small (by omega) (by omega)]; omega)) rfl ?_
          refine sq_r r_assign rfl ?_
          refine sq_z ?_
          -- region 17
          refine W_region (by decide +kernel) ?_
          refine sq_r (r_add rfl rfl (wrap_small (by omega) (by omega))) rfl ?_
          refine sq_r r_move rfl ?_
          refine sq_z ?_
          refine ⟨i + 1, ⟨_, _, L1.length, [(rb, cb [.slice va2 (ps.length + 1) vcap2] 30)] ++ (lc2 ++ (dc ++ d)), ov_self ⟨rfl, rfl, rfl, rfl, rfl, trivial⟩, by omega, hnext hRA, by have := hRA.len; omega, hRA.rg hLr hxr, ⟨_, ps ++ [({ x with up := up }, .slice na x.regs.length ncap)], lc2, dc ++ d, by simp [hps], ?_, hrg.add hnv, rfl⟩, hs.cast (by simp)⟩, by omega⟩
          rw [List.length_append, List.flatMap_append]
          simpa [prC] using hv2
        · cases hg
      · have hRA : RA L1 up x L1 k := .inl ⟨k, hk, rfl, rfl⟩
        refine sq_r (r_cmp (r := false) rfl rfl (by simp [cmpB])) rfl ?_
        refine sq_z ?_
        refine W_cond rfl rfl (fun hg => ?_) (fun hg => ?_)
        · cases hg
        refine W_skip ?_
        -- region 17
        refine W_region (by decide +kernel) ?_
        refine sq_r (r_add rfl rfl (wrap_small (by omega) (by omega))) rfl ?_
        refine sq_r r_move rfl ?_
        refine sq_z ?_
        exact ⟨i + 1, ⟨_, L1, k, [(rb, cb [.slice va ps.length vcap] 30)] ++ (lc ++ dc), ov_self ⟨rfl, rfl, rfl, rfl, rfl, trivial⟩, by omega, hnext hRA, by omega, hLr, ⟨_, ps, lc, dc, hps, hlc, hrg, rfl⟩, (hs.mask [true, true, true, false]).cast (by simp [zipMask])⟩, by omega⟩
  · have hin : i = l.length := by have := of_decide_eq_false hd; omega
    subst hin
    rw [List.take_length] at hra
    refine W_exit ?_ -- 0
    refine W_seq ?_
    -- region 18
    refine W_region (by decide +kernel) ?_
    refine sq_r r_move rfl ?_
    refine sq_r r_assign rfl ?_
    refine sq_z ?_
    refine W_ret ?_
    exact ret1 (v := .int .i64 up) rfl (by decide) rfl (fin (c' := c1) hs ⟨L1, up, rfl, hra, hb⟩ (by simp))

end Go.Proofs.Ytfojeengapebmaa
