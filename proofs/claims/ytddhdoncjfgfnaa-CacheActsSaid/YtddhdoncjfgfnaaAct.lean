/-
  Layer 15: a call on both caches (act): they answer alike, and stay alike. Conditions: what comes in is not long.
-/
import Derived.Test.YtddhdoncjfgfnaaRel
namespace Go.Proofs.Ytddhdoncjfgfnaa
open Go.Eng

theorem r_eqBt {P : Program} {w : World} {f : Fm} {d : Option Nat} {ty : TypeId} {pos : String} {after : Array Edge} {g : Option (Nat × Bool)} {x y : Operand} {T U : TypeId} {a : Bool} (hu : P.underlying T = some .bool) (hx : ev f x = .bool a) (hy : ev f y = .bool a) :
    (execOp (ev f) ⟨d, .binOp .eql T x y U, ty, pos, after, g⟩).run P w = .ok (.value (.bool true)) w := by
  have h := r_eqB (d := d) (ty := ty) (pos := pos) (after := after) (g := g) (U := U) (w := w) hu hx hy
  rw [h]
  simp
theorem spl_z (x : LT) : spl [Value.int .i64 0, .int .i64 0, .int .i64 0, .int .i64 0, .int .i64 0, .int .i64 0, .int .i64 0, .int .i64 0, .int .i64 0, .int .i64 0, .int .i64 0, .int .i64 0, .slice none 0 0, .slice none 0 0, .slice none 0 0, .slice none 0 0, .slice none 0 0] 0 (trC x) = trC x := spl_all (by simp [trC_len])
structure AcT where
  what : Int
  t : LT
  id : Int
  op : Int
  to : Int
def actC (a : AcT) : List Value := .int .i64 a.what :: (trC a.t ++ [.int .i64 a.id, .int .i64 a.op, .int .i64 a.to])
theorem actC_len (a : AcT) : (actC a).length = 21 := by simp [actC, trC_len]
def evA (a : AcT) : Value := .agg (actC a).toArray
theorem actC_tr (a : AcT) : ((actC a).drop (0 + 1)).take 17 = trC a.t := by
  simp only [actC, Nat.zero_add, List.drop_succ_cons, List.drop_zero]
  rw [← trC_len a.t, List.take_left]
theorem actC_key (a : AcT) : ((actC a).drop 1).take 10 = ic a.t.key.toList := by
  have := trC_key a.t
  rw [List.drop_zero] at this
  simp only [actC, List.drop_succ_cons, List.drop_zero]
  rw [List.take_append_of_le_length (by rw [trC_len]; omega)]
  exact this
theorem actC_get (a : AcT) (j : Nat) : (actC a)[18 + j]? = [Value.int .i64 a.id, .int .i64 a.op, .int .i64 a.to][j]? := by
  have h : (actC a)[18 + j]? = (trC a.t ++ [Value.int .i64 a.id, .int .i64 a.op, .int .i64 a.to])[17 + j]? := by
    unfold actC
    rw [show 18 + j = (17 + j) + 1 from by omega, List.getElem?_cons_succ]
  rw [h, List.getElem?_append_right (by rw [trC_len]; omega), trC_len]
  congr 1
  omega
theorem act18 (a : AcT) : (actC a)[0 + 18]? = some (.int .i64 a.id) := actC_get a 0
theorem act19 (a : AcT) : (actC a)[0 + 19]? = some (.int .i64 a.op) := actC_get a 1
theorem act20 (a : AcT) : (actC a)[0 + 20]? = some (.int .i64 a.to) := actC_get a 2
theorem actC_one {a : AcT} (h : ∀ u ∈ trC a.t, u.oneCell' = true) : ∀ u ∈ actC a, u.oneCell' = true := by
  intro u hu
  simp only [actC, List.mem_cons, List.mem_append, List.not_mem_nil, or_false] at hu
  rcases hu with rfl | hu | rfl | rfl | rfl
  · rfl
  · exact h u hu
  · rfl
  · rfl
  · rfl
theorem goneR_sub {r : R15} {i : Nat} {id : Int} : ∀ p ∈ (goneR r i id).rows, p ∈ r.rows := fun p hp => by
  rcases List.mem_append.1 hp with hp | hp
  · exact List.mem_of_mem_take hp
  · exact List.mem_of_mem_drop hp
theorem dropR_sub {r : R15} {k : Ky} : ∀ p ∈ (dropR r k).rows, p ∈ r.rows := fun p hp => by
  rcases rfind_cases r k with ⟨_, h, _⟩ | ⟨i, q, _, _, h, _⟩
  · rwa [h] at hp
  · rw [h] at hp; exact goneR_sub p hp
theorem rev1_sub {r : R15} : (∀ p ∈ (rev1 r).rows, p ∈ r.rows) ∧ (rev1 r).notes.length ≤ r.notes.length ∧ (rev1 r).picks = r.picks ∧ (rev1 r).limit = r.limit := by
  have e := rused_eq r
  unfold rev1
  split
  · refine ⟨fun p hp => ?_, ?_, (revK_eq r).2.1, (revK_eq r).1⟩
    · have := goneR_sub p (show p ∈ (goneR (rused r) _ _).rows from hp)
      rwa [e.1] at this
    · have : (revK r).notes.length ≤ (rused r).notes.length := List.length_filterMap_le _ _
      rwa [e.2.1] at this
  · exact ⟨fun p hp => hp, Nat.le_refl _, rfl, rfl⟩
theorem rputS_sub (r : R15) (x : LT) : (∀ p ∈ (rputS r x).rows, p ∈ r.rows ∨ p.2 = x) ∧ (rputS r x).notes.length ≤ r.notes.length ∧ (rputS r x).picks = r.picks ∧ (rputS r x).limit = r.limit := by
  have hd := dropR_le r x.key
  have he := rev1_sub (r := dropR r x.key)
  unfold rputS
  split
  · exact ⟨fun p hp => .inl hp, Nat.le_refl _, rfl, rfl⟩
  · refine ⟨fun p hp => ?_, Nat.le_trans he.2.1 hd.2.1, he.2.2.1.trans hd.2.2.2.1, he.2.2.2.trans hd.2.2.1⟩
    rcases List.mem_append.1 hp with hp | hp
    · exact .inl (dropR_sub p (he.1 p hp))
    · simp only [List.mem_singleton] at hp
      exact .inr (by rw [hp])
theorem setR_sub (r : R15) (id op : Int) (g : Nt → Nt) : (setR r id op g).rows = r.rows ∧ (setR r id op g).notes.length ≤ r.notes.length + 1 ∧ (setR r id op g).picks = r.picks ∧ (setR r id op g).limit = r.limit := by
  have h := noteR_len r id op
  refine ⟨h.2, by simp only [setR, List.length_modify]; exact h.1, ?_, ?_⟩
  · show (noteR r id op).1.picks = _
    unfold noteR; split <;> rfl
  · show (noteR r id op).1.limit = _
    unfold noteR; split <;> rfl
theorem note_get (r : R15) (id op : Int) : (noteR r id op).1.notes[(noteR r id op).2]? = some ((nget r.notes id op).getD ⟨id, op, 0, 0⟩) := by
  unfold noteR nget
  cases h : r.notes.findIdx? (ntP id op) with
  | some i =>
    obtain ⟨hi, h1, h2⟩ := List.findIdx?_eq_some_iff_getElem.1 h
    have : r.notes.find? (ntP id op) = some r.notes[i] := by
      rw [List.find?_eq_some_iff_getElem]
      exact ⟨h1, i, hi, rfl, fun j hj => by simpa using h2 j hj⟩
    rw [this]
    exact List.getElem?_eq_getElem hi
  | none =>
    have : r.notes.find? (ntP id op) = none := by
      rw [List.find?_eq_none]
      intro n hn
      rw [List.findIdx?_eq_none_iff.1 h n hn]
      decide
    rw [this]
    simp
theorem put_last2 (s : C15) (y : LT) : (putS s y).last ≤ s.last + 1 := by
  by_cases h : s.limit = 0
  · rw [putS, if_pos h]; omega
  · rw [(put_last h y).1]; exact Int.le_refl _

/-- The most that was held, after a call. -/
def topA (r : R15) (a : AcT) : Int := if a.what = 0 then (rputS r a.t).top else r.top
theorem setR_top (r : R15) (id op : Int) (g : Nt → Nt) : (setR r id op g).top = r.top := by
  show (noteR r id op).1.top = _
  unfold noteR; split <;> rfl

set_option maxRecDepth 40000 in
set_option maxHeartbeats 8000000 in
theorem f15_calls (bb rb : Nat) (pa : Option Addr) (pn pcap : Nat) (s : C15) (r : R15) (c1 c2 : Ck) (a : AcT) (hb : BK bb s c1) (hk : RK rb (.slice pa pn pcap) r c2) (hrel : RelC s r) (hnl : r.notes.length ≤ 3900000000000) (hla : s.last ≤ 3000000000000000000) (hpl : r.picks.length ≤ 17592186043904) (hsm : a.t.small) (hrs : ∀ p ∈ r.rows, p.2.small) :
    Ctr Try.prog 15 #[.pointer (some ⟨bb, 0, none⟩), .pointer (some ⟨rb, 0, none⟩), evA a] (c1 ++ c2) (fun w => RdG 1 iF (· ∉ ks (c1 ++ c2)) (.slice pa pn pcap) r.picks w ∧ RdT (· ∉ ks (c1 ++ c2)) a.t w ∧ ∀ p ∈ r.rows, RdT (· ∉ ks (c1 ++ c2)) p.2 w)
      (fun v c' => v = .bool true ∧ ∃ s' r' c1' c2', c' = c1' ++ c2' ∧ BK bb s' c1' ∧ RK rb (.slice pa pn pcap) r' c2' ∧ RelC s' r' ∧ r'.notes.length ≤ r.notes.length + 1 ∧ s'.last ≤ s.last + 1 ∧ r'.picks = r.picks ∧ r'.limit = r.limit ∧ r'.top = topA r a ∧ ∀ p ∈ r'.rows, p ∈ r.rows ∨ p.2 = a.t) := by
  intro w0 hp hro
  obtain ⟨hrp, hrt, hrr⟩ := hro
  have hs : St w0 (ks (c1 ++ c2)) [c1, c2] w0 := hp.st.cast (by simp)
  have hn1 : ∀ b, b ∉ ks (c1 ++ c2) → b ∉ ks c1 := fun b h hh => h (by simp only [ks, List.map_append, List.mem_append] at hh ⊢; exact .inl hh)
  have hn2 : ∀ b, b ∉ ks (c1 ++ c2) → b ∉ ks c2 := fun b h hh => h (by simp only [ks, List.map_append, List.mem_append] at hh ⊢; exact .inr hh)
  have ht1 := hrt.one
  have ho := hrel.inv.ok.o
  have hlim := hrel.inv.ok.lim
  have hl0 := hrel.inv.ok.l0
  have hlen := hrel.len
  have hrlen : r.rows.length ≤ 1000 := by omega
  have hll := hrel.last
  have hlm := hrel.lim
  refine calls_W (n := 140) Try.func15 rfl Try.ntmps15 (by simp) ?_
  refine W_seq ?_
  -- region 0
  refine W_region (by decide +kernel) ?_
  refine sq_e rfl (o_box (cs := actC a) hs rfl ?_); intro b5 w hs
  refine sq_r r_assign rfl ?_
  refine sq_z ?_
  have hs : St w0 (ks (c1 ++ c2)) [c1, c2, [(b5, cb (actC a) 50)]] w := hs
  refine W_seq ?_
  refine W_seq ?_
  -- region 1
  refine W_region (by decide +kernel) ?_
  refine sq_r (r_field rfl fa50_0) rfl ?_
  refine sq_r (r_load1 rfl ty3 (At.one (v := .int .i64 a.what) (hs.own (i := 2) rfl) rfl)) rfl ?_
  refine sq_z ?_
  refine W_block ?_
  refine W_seq ?_
  -- region 2
  refine W_region (by decide +kernel) ?_
  refine sq_r (r_cmp rfl rfl rfl) rfl ?_
  refine sq_r r_assign rfl ?_
  refine sq_z ?_
  refine W_cond rfl rfl (fun hq0 => ?_) (fun hq0 => ?_)
  · refine W_seq ?_
    -- region 3 DRAWS
    refine W_drawM hs Try.mixed [false, false, true] [0, 0, 2, 7, 0, 0, 32, 127, 255, 511] [3, 7] [0, 1, 2, 4, 5, 6, 3, 7, 8, 9] (by decide +kernel) ?_
    intro w hs; have hR := hs.mask [false, false, true]
    refine dq_r hR rfl rfl rfl (fun _ w _ _ hR => r_move) ?_
    refine dq_r hR rfl rfl rfl (fun _ w _ _ hR => r_field rfl fa50_1) ?_
    refine dq_r hR rfl rfl rfl (fun _ w _ _ hR => r_loadN rfl ty33 (trC_len a.t) (At.of_block (hR.own (i := 2) rfl) (by rw [trC_len]; exact actC_tr a))) ?_
    refine dq_r hR rfl rfl rfl (fun _ w _ _ hR => r_move) ?_
    refine dq_r hR rfl rfl rfl (fun _ w _ _ hR => r_field rfl fa50_1) ?_
    refine dq_r hR rfl rfl rfl (fun _ w _ _ hR => r_loadN rfl ty33 (trC_len a.t) (At.of_block (hR.own (i := 2) rfl) (by rw [trC_len]; exact actC_tr a))) ?_
    refine dq_e hR rfl rfl rfl (o_call (i := 0) cb10 rfl rfl (f10_calls bb s c1 hb hrel.inv.ok (by omega) a.t hsm) hs rfl ((hrt.old hs (fun b h => h)).mono hn1) ?_)
    rintro u c1' w ⟨y, hyt, rfl, hb1⟩ hs
    have hR := hs.mask [false, false, true]
    refine dq_e hR rfl rfl rfl (o_call (i := 1) cb29 rfl rfl (f29_calls rb pa pn pcap r c2 hk (by omega) (by omega) (by omega) (by omega) hpl hrel.used a.t ht1) hs rfl ((hrp.old iF_len (by decide) hs (fun b h => h)).mono hn2) ?_)
    rintro u c2' w ⟨rfl, hk1⟩ hs
    have hR := hs.mask [false, false, true]
    obtain ⟨hpn, hrel1⟩ := hrel.put hyt
    refine dq_r hR rfl rfl rfl (fun _ w _ _ hR => r_cmp (r := true) rfl rfl (by rw [hpn]; simp [cmpB])) ?_
    refine dq_r hR rfl rfl rfl (fun _ w _ _ hR => r_assign) ?_
    refine dq_z hR ?_
    have hsub := rputS_sub r a.t
    refine W_ret ?_
    repeat with_reducible first | refine thenQ_ret ?_ | refine blockQ_ret ?_
    exact ret1 (v := .bool true) rfl (by decide) rfl (fin (c' := c1' ++ c2') hs ⟨rfl, putS s y, rputS r a.t, c1', c2', rfl, hb1, hk1, hrel1, by have := hsub.2.1; omega, put_last2 s y, hsub.2.2.1, hsub.2.2.2, by unfold topA; rw [if_pos (by simpa [cmpB] using hq0)], hsub.1⟩ (by simp))
  have htp : topA r a = r.top := if_neg (by simpa [cmpB] using hq0)
  refine W_seq ?_
  -- region 4
  refine W_region (by decide +kernel) ?_
  refine sq_r (r_cmp rfl rfl rfl) rfl ?_
  refine sq_r r_assign rfl ?_
  refine sq_z ?_
  refine W_cond rfl rfl (fun hq1 => ?_) (fun hq1 => ?_)
  · refine W_seq ?_
    -- region 5 DRAWS
    refine W_drawM hs Try.mixed [false, false, true] [0, 0, 2, 6, 15, 0, 0, 64, 192, 511, 1023, 2047] [4, 9] [0, 1, 2, 3, 5, 6, 7, 8, 4, 9, 10, 11] (by decide +kernel) ?_
    intro w hs; have hR := hs.mask [false, false, true]
    refine dq_r hR rfl rfl rfl (fun _ w _ _ hR => r_move) ?_
    refine dq_r hR rfl rfl rfl (fun _ w _ _ hR => r_field rfl fa50_1) ?_
    refine dq_r hR rfl rfl rfl (fun _ w _ _ hR => r_field rfl fa33_0) ?_
    refine dq_r hR rfl rfl rfl (fun _ w _ _ hR => r_loadN (vs := ic a.t.key.toList) rfl ty26 (by simp) (At.of_block (hR.own (i := 2) rfl) (by simpa using actC_key a))) ?_
    refine dq_r hR rfl rfl rfl (fun _ w _ _ hR => r_move) ?_
    refine dq_r hR rfl rfl rfl (fun _ w _ _ hR => r_field rfl fa50_1) ?_
    refine dq_r hR rfl rfl rfl (fun _ w _ _ hR => r_field rfl fa33_0) ?_
    refine dq_r hR rfl rfl rfl (fun _ w _ _ hR => r_loadN (vs := ic a.t.key.toList) rfl ty26 (by simp) (At.of_block (hR.own (i := 2) rfl) (by simpa using actC_key a))) ?_
    refine dq_e hR rfl rfl rfl (o_call (i := 0) cb18 rfl rfl (f18_calls bb s c1 hb hrel.inv.ok a.t.key) hs rfl trivial ?_)
    rintro u c1' w ⟨rfl, hb1⟩ hs
    have hR := hs.mask [false, false, true]
    refine dq_e hR rfl rfl rfl (o_call (i := 1) cb30 rfl rfl (f30_calls rb (.slice pa pn pcap) r c2 hk a.t.key (by omega) (by omega)) hs rfl trivial ?_)
    rintro u c2' w ⟨rfl, hk1⟩ hs
    have hR := hs.mask [false, false, true]
    have hdd : decide (0 < findK s a.t.key) = decide (0 ≤ rfind r a.t.key) := by
      rcases hrel.find a.t.key with ⟨h1, h2, _⟩ | ⟨i, p, h1, _, h2, _⟩
      · rw [h1, h2]; decide
      · rw [decide_eq_true h1, h2, decide_eq_true (by omega)]
    rw [hdd]
    refine dq_r hR rfl rfl rfl (fun _ w _ _ hR => r_eqBt Try.underlying4 rfl rfl) ?_
    refine dq_r hR rfl rfl rfl (fun _ w _ _ hR => r_assign) ?_
    refine dq_z hR ?_
    have hsub := dropR_le r a.t.key
    refine W_ret ?_
    repeat with_reducible first | refine thenQ_ret ?_ | refine blockQ_ret ?_
    exact ret1 (v := .bool true) rfl (by decide) rfl (fin (c' := c1' ++ c2') hs ⟨rfl, dropK s a.t.key, dropR r a.t.key, c1', c2', rfl, hb1, hk1, hrel.drop a.t.key, by omega, by rw [(drop_last s a.t.key).1]; omega, hsub.2.2.2.1, hsub.2.2.1, hsub.2.2.2.2.2.2.trans htp.symm, fun p hp => .inl (dropR_sub p hp)⟩ (by simp))
  refine W_seq ?_
  -- region 6
  refine W_region (by decide +kernel) ?_
  refine sq_r (r_cmp rfl rfl rfl) rfl ?_
  refine sq_r r_assign rfl ?_
  refine sq_z ?_
  refine W_cond rfl rfl (fun hq2 => ?_) (fun hq2 => ?_)
  · refine W_seq ?_
    -- region 7 DRAWS
    refine W_drawM hs Try.mixed [false, false, true] [0, 0, 2, 0, 8, 31, 0, 0, 128, 0, 512, 2047, 4095, 8191] [5, 11] [0, 1, 2, 3, 4, 6, 7, 8, 9, 10, 5, 11, 12, 13] (by decide +kernel) ?_
    intro w hs; have hR := hs.mask [false, false, true]
    refine dq_r hR rfl rfl rfl (fun _ w _ _ hR => r_move) ?_
    refine dq_r hR rfl rfl rfl (fun _ w _ _ hR => r_field rfl fa50_2) ?_
    refine dq_r hR rfl rfl rfl (fun _ w _ _ hR => r_load1 rfl ty3 (At.one (hR.own (i := 2) rfl) (act18 a))) ?_
    refine dq_r hR rfl rfl rfl (fun _ w _ _ hR => r_field rfl fa50_3) ?_
    refine dq_r hR rfl rfl rfl (fun _ w _ _ hR => r_load1 rfl ty3 (At.one (hR.own (i := 2) rfl) (act19 a))) ?_
    refine dq_r hR rfl rfl rfl (fun _ w _ _ hR => r_move) ?_
    refine dq_r hR rfl rfl rfl (fun _ w _ _ hR => r_field rfl fa50_2) ?_
    refine dq_r hR rfl rfl rfl (fun _ w _ _ hR => r_load1 rfl ty3 (At.one (hR.own (i := 2) rfl) (act18 a))) ?_
    refine dq_r hR rfl rfl rfl (fun _ w _ _ hR => r_field rfl fa50_3) ?_
    refine dq_r hR rfl rfl rfl (fun _ w _ _ hR => r_load1 rfl ty3 (At.one (hR.own (i := 2) rfl) (act19 a))) ?_
    refine dq_e hR rfl rfl rfl (o_call (i := 0) cb19 rfl rfl (f19_calls bb s c1 hb hrel.inv.ok a.id a.op) hs rfl trivial ?_)
    rintro u c1' w ⟨rfl, hb1⟩ hs
    have hR := hs.mask [false, false, true]
    refine dq_e hR rfl rfl rfl (o_call (i := 1) cb31 rfl rfl (f31_calls rb (.slice pa pn pcap) r c2 hk a.id a.op (by omega) (by omega)) hs rfl trivial ?_)
    rintro u c2' w ⟨hu, hk1⟩ hs
    have hR := hs.mask [false, false, true]
    have hu := hu _ (note_get r a.id a.op)
    subst hu
    have hheld := hrel.held a.id
    have hf := hrel.fail a.id a.op
    rw [hheld] at hb1 ⊢
    refine dq_r hR rfl rfl rfl (fun _ w _ _ hR => r_cmp (r := true) rfl rfl (by rw [hf.1]; simp [cmpB, nFail])) ?_
    refine dq_r hR rfl rfl rfl (fun _ w _ _ hR => r_assign) ?_
    refine dq_z hR ?_
    have hsub := setR_sub r a.id a.op nFail
    refine W_ret ?_
    repeat with_reducible first | refine thenQ_ret ?_ | refine blockQ_ret ?_
    cases hh : rheld r a.id
    · rw [hh] at hb1 hk1
      exact ret1 (v := .bool true) rfl (by decide) rfl (fin (c' := c1' ++ c2') hs ⟨rfl, s, r, c1', c2', rfl, hb1, hk1, hrel, by omega, by omega, rfl, rfl, htp.symm, fun p hp => .inl hp⟩ (by simp))
    · rw [hh] at hb1 hk1
      exact ret1 (v := .bool true) rfl (by decide) rfl (fin (c' := c1' ++ c2') hs ⟨rfl, failS s (v2 a.id a.op), setR r a.id a.op nFail, c1', c2', rfl, hb1, hk1, hf.2, hsub.2.1, by show s.last ≤ s.last + 1; omega, hsub.2.2.1, hsub.2.2.2, (setR_top _ _ _ _).trans htp.symm, fun p hp => .inl (by rw [hsub.1] at hp; exact hp)⟩ (by simp))
  refine W_seq ?_
  -- region 8
  refine W_region (by decide +kernel) ?_
  refine sq_r (r_cmp rfl rfl rfl) rfl ?_
  refine sq_r r_assign rfl ?_
  refine sq_z ?_
  refine W_cond rfl rfl (fun hq3 => ?_) (fun hq3 => ?_)
  · refine W_seq ?_
    -- region 9 DRAWS
    refine W_drawM hs Try.mixed [false, false, true] [0, 0, 2, 0, 8, 0, 32, 127, 0, 0, 512, 0, 2048, 0, 8192, 32767, 65535, 131071] [7, 15] [0, 1, 2, 3, 4, 5, 6, 8, 9, 10, 11, 12, 13, 14, 7, 15, 16, 17] (by decide +kernel) ?_
    intro w hs; have hR := hs.mask [false, false, true]
    refine dq_r hR rfl rfl rfl (fun _ w _ _ hR => r_move) ?_
    refine dq_r hR rfl rfl rfl (fun _ w _ _ hR => r_field rfl fa50_2) ?_
    refine dq_r hR rfl rfl rfl (fun _ w _ _ hR => r_load1 rfl ty3 (At.one (hR.own (i := 2) rfl) (act18 a))) ?_
    refine dq_r hR rfl rfl rfl (fun _ w _ _ hR => r_field rfl fa50_3) ?_
    refine dq_r hR rfl rfl rfl (fun _ w _ _ hR => r_load1 rfl ty3 (At.one (hR.own (i := 2) rfl) (act19 a))) ?_
    refine dq_r hR rfl rfl rfl (fun _ w _ _ hR => r_field rfl fa50_4) ?_
    refine dq_r hR rfl rfl rfl (fun _ w _ _ hR => r_load1 rfl ty3 (At.one (hR.own (i := 2) rfl) (act20 a))) ?_
    refine dq_r hR rfl rfl rfl (fun _ w _ _ hR => r_move) ?_
    refine dq_r hR rfl rfl rfl (fun _ w _ _ hR => r_field rfl fa50_2) ?_
    refine dq_r hR rfl rfl rfl (fun _ w _ _ hR => r_load1 rfl ty3 (At.one (hR.own (i := 2) rfl) (act18 a))) ?_
    refine dq_r hR rfl rfl rfl (fun _ w _ _ hR => r_field rfl fa50_3) ?_
    refine dq_r hR rfl rfl rfl (fun _ w _ _ hR => r_load1 rfl ty3 (At.one (hR.own (i := 2) rfl) (act19 a))) ?_
    refine dq_r hR rfl rfl rfl (fun _ w _ _ hR => r_field rfl fa50_4) ?_
    refine dq_r hR rfl rfl rfl (fun _ w _ _ hR => r_load1 rfl ty3 (At.one (hR.own (i := 2) rfl) (act20 a))) ?_
    refine dq_e hR rfl rfl rfl (o_call (i := 0) cb20 rfl rfl (f20_calls bb s c1 hb hrel.inv.ok a.id a.op a.to) hs rfl trivial ?_)
    rintro u c1' w ⟨rfl, hb1⟩ hs
    have hR := hs.mask [false, false, true]
    refine dq_e hR rfl rfl rfl (o_call (i := 1) cb32 rfl rfl (f32_calls rb (.slice pa pn pcap) r c2 hk a.id a.op a.to (by omega) (by omega)) hs rfl trivial ?_)
    rintro u c2' w ⟨rfl, hk1⟩ hs
    have hR := hs.mask [false, false, true]
    have he := hrel.linkE a.id a.op a.to
    rw [he] at hb1 ⊢
    refine dq_r hR rfl rfl rfl (fun _ w _ _ hR => r_cmp (r := true) rfl rfl (by simp [cmpB])) ?_
    refine dq_r hR rfl rfl rfl (fun _ w _ _ hR => r_assign) ?_
    refine dq_z hR ?_
    have hsub := setR_sub r a.id a.op (nTo a.to)
    refine W_ret ?_
    repeat with_reducible first | refine thenQ_ret ?_ | refine blockQ_ret ?_
    by_cases hh : rlinkE r a.id a.op a.to = 0
    · rw [if_pos hh] at hb1 hk1
      have hto : a.to ≠ 0 := by
        have h1 : (mget s.held.1 a.to).isSome = true := by
          rw [hrel.held a.to]
          unfold rlinkE at hh
          split at hh
          · rename_i h2
            simp only [Bool.and_eq_true] at h2
            exact h2.2
          · exact absurd hh (by decide)
        have := (hrel.inv.ok.ids a.to (hrel.hel a.to h1)).1
        omega
      exact ret1 (v := .bool true) rfl (by decide) rfl (fin (c' := c1' ++ c2') hs ⟨rfl, linkS s (v2 a.id a.op) a.to, setR r a.id a.op (nTo a.to), c1', c2', rfl, hb1, hk1, hrel.link a.id a.op hto, hsub.2.1, by show s.last ≤ s.last + 1; omega, hsub.2.2.1, hsub.2.2.2, (setR_top _ _ _ _).trans htp.symm, fun p hp => .inl (by rw [hsub.1] at hp; exact hp)⟩ (by simp))
    · rw [if_neg hh] at hb1 hk1
      exact ret1 (v := .bool true) rfl (by decide) rfl (fin (c' := c1' ++ c2') hs ⟨rfl, s, r, c1', c2', rfl, hb1, hk1, hrel, by omega, by omega, rfl, rfl, htp.symm, fun p hp => .inl hp⟩ (by simp))
  refine W_seq ?_
  -- region 10
  refine W_region (by decide +kernel) ?_
  refine sq_r (r_cmp rfl rfl rfl) rfl ?_
  refine sq_r r_assign rfl ?_
  refine sq_z ?_
  refine W_cond rfl rfl (fun hq4 => ?_) (fun hq4 => ?_)
  · have hlk := hrel.linked a.id a.op
    refine W_seq ?_
    -- region 11
    refine W_region (by decide +kernel) ?_
    refine sq_r r_move rfl ?_
    refine sq_r (r_field rfl fa50_2) rfl ?_
    refine sq_r (r_load1 rfl ty3 (At.one (hs.own (i := 2) rfl) (act18 a))) rfl ?_
    refine sq_r (r_field rfl fa50_3) rfl ?_
    refine sq_r (r_load1 rfl ty3 (At.one (hs.own (i := 2) rfl) (act19 a))) rfl ?_
    refine sq_e rfl (o_callN cb17 rfl rfl (Post := fun v _ => v = .tuple #[.int .i64 ((mget s.links.1 (v2 a.id a.op)).getD 0), .bool (mget s.links.1 (v2 a.id a.op)).isSome]) (f17_calls bb s c1 hb a.id a.op) hs (hs.at (i := 0) rfl) ?_)
    rintro u w rfl hs
    rw [hlk]
    refine sq_r r_move rfl ?_
    refine sq_r (r_extract rfl rfl) rfl ?_
    refine sq_r (r_extract rfl rfl) rfl ?_
    refine sq_r r_assign rfl ?_
    refine sq_r r_assign rfl ?_
    refine sq_z ?_
    refine W_seq ?_
    -- region 12
    refine W_region (by decide +kernel) ?_
    refine sq_r r_move rfl ?_
    refine sq_r (r_field rfl fa50_2) rfl ?_
    refine sq_r (r_load1 rfl ty3 (At.one (hs.own (i := 2) rfl) (act18 a))) rfl ?_
    refine sq_r (r_field rfl fa50_3) rfl ?_
    refine sq_r (r_load1 rfl ty3 (At.one (hs.own (i := 2) rfl) (act19 a))) rfl ?_
    refine sq_e rfl (o_callN cb33 rfl rfl (Post := fun v _ => v = .tuple #[.int .i64 ((rlinked r a.id a.op).getD 0), .bool (rlinked r a.id a.op).isSome]) (f33_calls rb (.slice pa pn pcap) r c2 hk a.id a.op (by omega)) hs (hs.at (i := 1) rfl) ?_)
    rintro u w rfl hs
    refine sq_r r_move rfl ?_
    refine sq_r (r_extract rfl rfl) rfl ?_
    refine sq_r (r_extract rfl rfl) rfl ?_
    refine sq_r r_assign rfl ?_
    refine sq_r r_assign rfl ?_
    refine sq_z ?_
    refine W_seq ?_
    generalize (rlinked r a.id a.op).getD 0 = X
    cases (rlinked r a.id a.op).isSome
    · -- region 13
      refine W_region (by decide +kernel) ?_
      refine sq_r r_move rfl ?_
      refine sq_r r_move rfl ?_
      refine sq_r (r_eqB Try.underlying4 rfl rfl) rfl ?_
      refine sq_r r_move rfl ?_
      refine sq_r r_move rfl ?_
      refine sq_r (r_not rfl) rfl ?_
      refine sq_r r_move rfl ?_
      refine sq_n rfl ?_
      refine sq_n rfl ?_
      refine sq_n rfl ?_
      refine sq_r (r_pick (b := true) rfl) rfl ?_
      refine sq_r (r_pick (b := true) rfl) rfl ?_
      refine sq_r r_assign rfl ?_
      refine sq_z ?_
      refine W_ret ?_
      repeat with_reducible first | refine thenQ_ret ?_ | refine blockQ_ret ?_
      exact ret1 (v := .bool true) rfl (by decide) rfl (fin (c' := c1 ++ c2) hs ⟨rfl, s, r, c1, c2, rfl, hb, hk, hrel, by omega, by omega, rfl, rfl, htp.symm, fun p hp => .inl hp⟩ (by simp))
    · -- region 13
      refine W_region (by decide +kernel) ?_
      refine sq_r r_move rfl ?_
      refine sq_r r_move rfl ?_
      refine sq_r (r_eqB Try.underlying4 rfl rfl) rfl ?_
      refine sq_r r_move rfl ?_
      refine sq_r r_move rfl ?_
      refine sq_r (r_not rfl) rfl ?_
      refine sq_r r_move rfl ?_
      refine sq_r r_move rfl ?_
      refine sq_r r_move rfl ?_
      refine sq_r (r_cmp (r := true) rfl rfl (by simp [cmpB])) rfl ?_
      refine sq_r (r_pick (b := false) rfl) rfl ?_
      refine sq_r (r_pick (b := true) rfl) rfl ?_
      refine sq_r r_assign rfl ?_
      refine sq_z ?_
      refine W_ret ?_
      repeat with_reducible first | refine thenQ_ret ?_ | refine blockQ_ret ?_
      exact ret1 (v := .bool true) rfl (by decide) rfl (fin (c' := c1 ++ c2) hs ⟨rfl, s, r, c1, c2, rfl, hb, hk, hrel, by omega, by omega, rfl, rfl, htp.symm, fun p hp => .inl hp⟩ (by simp))
  refine W_skip ?_
  refine W_seq ?_
  -- region 14
  refine W_region (by decide +kernel) ?_
  refine sq_r r_move rfl ?_
  refine sq_r (r_field rfl fa50_1) rfl ?_
  refine sq_r (r_field rfl fa33_0) rfl ?_
  refine sq_r (r_loadN (vs := ic a.t.key.toList) rfl ty26 (by simp) (At.of_block (hs.own (i := 2) rfl) (by simpa using actC_key a))) rfl ?_
  refine sq_e rfl (o_call0 cb11 rfl rfl (f11_calls bb s c1 hb a.t.key (by omega)) hs (hs.at (i := 0) rfl) ?_)
  rintro u d w h11 hs
  obtain ⟨X, I, B, rfl, hX, hXc⟩ : ∃ (X : LT) (I : Int) (B : Bool), u = .tuple #[evT X, .int .i64 I, .bool B] ∧ (∀ {w : World}, Hp d w → RdT (fun _ => True) X w) ∧ ((findK s a.t.key = 0 ∧ X = zLT ∧ I = 0 ∧ B = false) ∨ (findK s a.t.key ≠ 0 ∧ X.t = (at15 s (findK s a.t.key)).t ∧ I = findK s a.t.key ∧ B = true)) := by
    rcases h11 with ⟨h1, h2, _⟩ | ⟨h1, y, ci, cbk, co, cl, cv, dd, h2, h3, h4, h5⟩
    · exact ⟨zLT, 0, false, h2, fun _ => RdT.z, .inl ⟨h1, rfl, rfl, rfl⟩⟩
    · exact ⟨y, _, true, h2, fun h => by rw [h5] at h; exact (h4.rd h).mono fun _ _ => trivial, .inr ⟨h1, h3, rfl, rfl⟩⟩
  refine sq_r r_move rfl ?_
  refine sq_r (r_extract rfl rfl) rfl ?_
  refine sq_r (r_extract rfl rfl) rfl ?_
  refine sq_r (r_extract rfl rfl) rfl ?_
  refine sq_e rfl (o_alloc hs ty33 ?_); intro b11 w hs
  refine sq_e rfl (o_store (i := 4) (vs := trC X) hs rfl rfl (by rw [trC_len]; exact ty33) rfl (hX (hs.at (i := 3) rfl)).one (by simp [trC_len]) ?_); intro w hs
  refine sq_r r_assign rfl ?_
  refine sq_r r_assign rfl ?_
  refine sq_z ?_
  have hs : St w0 (ks (c1 ++ c2)) [c1, c2, [(b5, cb (actC a) 50)], d, [(b11, cb (trC X) 33)]] w := by
    rw [← spl_z X]
    exact hs
  refine W_seq ?_
  -- region 15
  refine W_region (by decide +kernel) ?_
  refine sq_r r_move rfl ?_
  refine sq_r (r_field rfl fa50_1) rfl ?_
  refine sq_r (r_field rfl fa33_0) rfl ?_
  refine sq_r (r_loadN (vs := ic a.t.key.toList) rfl ty26 (by simp) (At.of_block (hs.own (i := 2) rfl) (by simpa using actC_key a))) rfl ?_
  refine sq_e rfl (o_callN cb34 rfl rfl (Post := fun v _ => (rfind r a.t.key < 0 ∧ v = .tuple #[evT zLT, .int .i64 0, .bool false]) ∨ ∃ (i : Nat) (p : Int × LT), rfind r a.t.key = i ∧ r.rows[i]? = some p ∧ v = .tuple #[evT p.2, .int .i64 p.1, .bool true]) (f34_calls rb (.slice pa pn pcap) r c2 hk a.t.key (by omega)) hs (hs.at (i := 1) rfl) ?_)
  intro u w h34 hs
  obtain ⟨Y, rfl, hY, hYX, hXs⟩ : ∃ (Y : LT), u = .tuple #[evT Y, .int .i64 I, .bool B] ∧ (∀ {w : World} {cs : List Ck}, St w0 (ks (c1 ++ c2)) cs w → RdT (fun _ => True) Y w) ∧ Y.t = X.t ∧ X.small := by
    rcases hrel.find a.t.key with ⟨h1, h2, _⟩ | ⟨i, p, h1, h2, h3, h4, _⟩
    · rcases hXc with ⟨_, rfl, rfl, rfl⟩ | ⟨h5, _⟩
      · rcases h34 with ⟨_, h6⟩ | ⟨i, p, h6, _⟩
        · exact ⟨zLT, h6, fun _ => RdT.z, rfl, small_z⟩
        · omega
      · exact absurd h1 h5
    · have hpm := List.mem_of_getElem? h4
      rcases hXc with ⟨h5, _⟩ | ⟨_, h5, rfl, rfl⟩
      · omega
      · rcases h34 with ⟨h6, _⟩ | ⟨j, q, h6, h7, h8⟩
        · omega
        · obtain rfl : i = j := by omega
          rw [h4] at h7
          cases h7
          have e : X.t = p.2.t := by rw [h5, h2]; exact (hrel.tr p hpm).1
          exact ⟨p.2, by rw [h8, h2], fun hs => ((hrr p hpm).old hs (fun b h => h)).mono fun _ _ => trivial, e.symm, small_t (hrs p hpm) e⟩
  refine sq_r r_move rfl ?_
  refine sq_r (r_extract rfl rfl) rfl ?_
  refine sq_r (r_extract rfl rfl) rfl ?_
  refine sq_r (r_extract rfl rfl) rfl ?_
  refine sq_e rfl (o_alloc hs ty33 ?_); intro b14 w hs
  refine sq_e rfl (o_store (i := 5) (vs := trC Y) hs rfl rfl (by rw [trC_len]; exact ty33) rfl (hY hs).one (by simp [trC_len]) ?_); intro w hs
  refine sq_r r_assign rfl ?_
  refine sq_r r_assign rfl ?_
  refine sq_z ?_
  have hs : St w0 (ks (c1 ++ c2)) [c1, c2, [(b5, cb (actC a) 50)], d, [(b11, cb (trC X) 33)], [(b14, cb (trC Y) 33)]] w := by
    rw [← spl_z Y]
    exact hs
  refine W_seq ?_
  -- region 16
  refine W_region (by decide +kernel) ?_
  refine sq_r r_move rfl ?_
  refine sq_r r_move rfl ?_
  refine sq_r (r_eqBt Try.underlying4 rfl rfl) rfl ?_
  refine sq_r r_move rfl ?_
  refine sq_r r_move rfl ?_
  refine sq_r r_move rfl ?_
  refine sq_r (r_cmp (r := true) rfl rfl (by simp [cmpB])) rfl ?_
  refine sq_r (r_pick (b := true) rfl) rfl ?_
  refine sq_r r_move rfl ?_
  refine sq_r (r_loadN rfl ty33 (trC_len X) (At.of_block (hs.own (i := 4) rfl) (by simp))) rfl ?_
  refine sq_r (r_loadN rfl ty33 (trC_len Y) (At.of_block (hs.own (i := 5) rfl) (by simp))) rfl ?_
  refine sq_e rfl (o_callN cb12 rfl rfl (Post := fun r _ => r = .bool true) (f12_calls X Y (fun _ => True) hYX hXs) hs ⟨hX (hs.at (i := 3) rfl), hY hs⟩ ?_)
  rintro u w rfl hs
  refine sq_r (r_pick (b := true) rfl) rfl ?_
  refine sq_r r_assign rfl ?_
  refine sq_z ?_
  refine W_ret ?_
  exact ret1 (v := .bool true) rfl (by decide) rfl (fin (c' := c1 ++ c2) hs ⟨rfl, s, r, c1, c2, rfl, hb, hk, hrel, by omega, by omega, rfl, rfl, htp.symm, fun p hp => .inl hp⟩ (by simp))

end Go.Proofs.Ytddhdoncjfgfnaa
