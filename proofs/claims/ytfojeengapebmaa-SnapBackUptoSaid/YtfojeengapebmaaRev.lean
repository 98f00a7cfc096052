/-
  Layer 17: links in memory, the chains of links: Reverse, both Chains. Conditions: there are few links.
-/
import Derived.Test.YtfojeengapebmaaFacts
namespace Go.Proofs.Ytfojeengapebmaa
open Go.Eng

theorem thenQ_exit {K : Fm → World → Prop} {Q : Exit → Fm → World → Prop} {id : Nat} {f : Fm} {w : World} (h : Q (.exit id) f w) : thenQ K Q (.exit id) f w := h
theorem blockQ_exit {Q : Exit → Fm → World → Prop} {id : Nat} {f : Fm} {w : World} (h : Q .normal f w) : blockQ id Q (.exit id) f w := by
  simpa [blockQ] using h
abbrev Sc := Vector Int 4
structure Lk where
  up : Int
  fn : Int
  pc : Int
  into : Int
  regs : List Sc
def lkC (l : Lk) (rv : Value) : List Value := [.int .i64 l.up, .int .i64 l.fn, .int .i64 l.pc, .int .i64 l.into, rv]
/-- A slice of sources that may be read, in blocks of B. -/
def RdS (B : Nat → Prop) (v : Value) (xs : List Sc) (w : World) : Prop :=
  ∃ a cap, v = .slice a xs.length cap ∧ ∀ i x, xs[i]? = some x → ∃ b off, a = some ⟨b, off, none⟩ ∧ B b ∧ At w b (off + i * 4) (ic x.toList)
/-- A slice of links that may be read. -/
def RdL (B : Nat → Prop) (v : Value) (ls : List Lk) (w : World) : Prop :=
  ∃ a cap, v = .slice a ls.length cap ∧ ∀ i l, ls[i]? = some l → ∃ b off rv, a = some ⟨b, off, none⟩ ∧ B b ∧ At w b (off + i * 5) (lkC l rv) ∧ RdS B rv l.regs w
theorem at_keep {w0 w : World} {F0 : List Nat} {cs : List Ck} {b off : Nat} {vs : List Value} (hs : St w0 F0 cs w) (hF : b ∉ F0) (h0 : 0 < vs.length) (ha : At w0 b off vs) : At w b off vs :=
  hs.oldAt (by have := ha 0 _ (List.getElem?_eq_getElem h0); exact cells_lt this) hF ha
theorem RdS.keep {B : Nat → Prop} {v : Value} {xs : List Sc} {w0 w : World} {F0 : List Nat} {cs : List Ck} (h : RdS B v xs w0) (hs : St w0 F0 cs w) (hB : ∀ b, B b → b ∉ F0) : RdS B v xs w := by
  obtain ⟨a, cap, hv, hall⟩ := h
  refine ⟨a, cap, hv, fun i x hi => ?_⟩
  obtain ⟨b, off, ha, hb, hat⟩ := hall i x hi
  exact ⟨b, off, ha, hb, at_keep hs (hB b hb) (by simp) hat⟩
theorem RdL.keep {B : Nat → Prop} {v : Value} {ls : List Lk} {w0 w : World} {F0 : List Nat} {cs : List Ck} (h : RdL B v ls w0) (hs : St w0 F0 cs w) (hB : ∀ b, B b → b ∉ F0) : RdL B v ls w := by
  obtain ⟨a, cap, hv, hall⟩ := h
  refine ⟨a, cap, hv, fun i x hi => ?_⟩
  obtain ⟨b, off, rv, ha, hb, hat, hr⟩ := hall i x hi
  exact ⟨b, off, rv, ha, hb, at_keep hs (hB b hb) (by simp [lkC]) hat, hr.keep hs hB⟩
theorem RdS.mono {B B' : Nat → Prop} {v : Value} {xs : List Sc} {w : World} (h : RdS B v xs w) (hB : ∀ b, B b → B' b) : RdS B' v xs w := by
  obtain ⟨a, cap, hv, hall⟩ := h
  refine ⟨a, cap, hv, fun i x hi => ?_⟩
  obtain ⟨b, off, ha, hb, hat⟩ := hall i x hi
  exact ⟨b, off, ha, hB b hb, hat⟩
theorem RdL.mono {B B' : Nat → Prop} {v : Value} {ls : List Lk} {w : World} (h : RdL B v ls w) (hB : ∀ b, B b → B' b) : RdL B' v ls w := by
  obtain ⟨a, cap, hv, hall⟩ := h
  refine ⟨a, cap, hv, fun i x hi => ?_⟩
  obtain ⟨b, off, rv, ha, hb, hat, hr⟩ := hall i x hi
  exact ⟨b, off, rv, ha, hB b hb, hat, hr.mono hB⟩

/-! ### Reverse -/
def RevI (l : List Int) (i : Nat) (m : List Int) : Prop := m.length = l.length ∧ ∀ k, k < l.length → m[k]? = l[if k < i ∨ l.length - i ≤ k then l.length - 1 - k else k]?
theorem rev_step {l m : List Int} {i : Nat} (h : RevI l i m) (hi : 2 * i + 1 < l.length) {x y : Int} (hx : m[i]? = some x) (hy : m[l.length - 1 - i]? = some y) : RevI l (i + 1) ((m.set i y).set (l.length - 1 - i) x) := by
  obtain ⟨hl, hall⟩ := h
  refine ⟨by simp [hl], fun k hk => ?_⟩
  have h1 := hall i (by omega)
  have h2 := hall (l.length - 1 - i) (by omega)
  rw [if_neg (by omega)] at h1 h2
  by_cases hki : k = l.length - 1 - i
  · subst hki
    rw [List.getElem?_set_self (by simp [hl]; omega), if_pos (by omega), ← hx, h1]
    congr 1; omega
  · rw [List.getElem?_set_ne (fun e => hki e.symm)]
    by_cases hk2 : k = i
    · subst hk2
      rw [List.getElem?_set_self (by omega), if_pos (by omega), ← hy, h2]
    · rw [List.getElem?_set_ne (fun e => hk2 e.symm), hall k hk]
      by_cases hc : k < i ∨ l.length - i ≤ k
      · rw [if_pos hc, if_pos (by omega)]
      · rw [if_neg hc, if_neg (by omega)]
theorem rev_end {l m : List Int} {i : Nat} (h : RevI l i m) (hi : l.length ≤ 2 * i + 1) : m = l.reverse := by
  obtain ⟨hl, hall⟩ := h
  apply List.ext_getElem?
  intro k
  by_cases hk : k < l.length
  · rw [hall k hk, List.getElem?_reverse hk]
    congr 1
    split <;> omega
  · rw [List.getElem?_eq_none (by omega), List.getElem?_eq_none (by simp; omega)]
theorem f25_calls (v : Value) (l : List Int) (c : Ck) (hv : Sl 3 1 v l.length (ic l) c) (hn : l.length ≤ 4000) : Ctr Try.prog 25 #[v] c (fun _ => True) (fun _ c' => Sl 3 1 v l.length (ic l.reverse) c') := by
  intro w0 hp hro
  have hs : St w0 (ks c) [c] w0 := hp.st
  obtain ⟨a, cap, rfl⟩ := hv.len
  refine calls_W (n := 28) Try.func25 rfl Try.ntmps25 (by simp) ?_
  refine W_seq ?_
  -- region 0
  refine W_region (by decide +kernel) ?_
  refine sq_r r_move rfl ?_
  refine sq_r (r_lenS Try.underlying35 rfl) rfl ?_
  refine sq_r (r_sub (c := (l.length : Int) - 1) rfl rfl (wrap_small (by omega) (by omega))) rfl ?_
  refine sq_r r_assign rfl ?_
  refine sq_r r_assign rfl ?_
  refine sq_z ?_
  refine W_block ?_ -- 0
  -- LOOP
  refine W_loop (fun (i : Nat) f w => ∃ g m c1, f = ov [(0, .slice a l.length cap), (2, .int .i64 i), (3, .int .i64 ((l.length : Int) - 1 - i))] g ∧ RevI l i m ∧ Sl 3 1 (.slice a l.length cap) l.length (ic m) c1 ∧ St w0 (ks c) [c1] w) (fun i => l.length - i) 0 ?_ ?_
  · exact ⟨_, l, c, ov_self ⟨rfl, rfl, by simp; rfl, trivial⟩, ⟨rfl, fun k hk => by rw [if_neg (by omega)]⟩, hv, hs⟩
  rintro i f w ⟨g, m, c1, rfl, hr, hv1, hs⟩
  refine W_seq ?_
  refine W_seq ?_
  -- region 1
  refine W_region (by decide +kernel) ?_
  refine sq_r r_move rfl ?_
  refine sq_r r_move rfl ?_
  refine sq_r (r_cmp rfl rfl rfl) rfl ?_
  refine sq_z ?_
  refine W_cond rfl rfl (fun hc => ?_) (fun hc => ?_)
  · have hlt : 2 * i + 1 < l.length := by have := of_decide_eq_true hc; omega
    have hml := hr.1
    obtain ⟨x, hx⟩ : ∃ x, m[i]? = some x := ⟨_, List.getElem?_eq_getElem (by omega)⟩
    obtain ⟨y, hy⟩ : ∃ y, m[l.length - 1 - i]? = some y := ⟨_, List.getElem?_eq_getElem (by omega)⟩
    rcases hv1.2 with ⟨_, h0, _⟩ | ⟨b, cap', rest, hve, rfl, h3, h4, h5⟩
    · omega
    simp only [Value.slice.injEq, true_and] at hve
    obtain ⟨rfl, rfl⟩ := hve
    have ej : ((l.length : Int) - 1 - i).toNat = l.length - 1 - i := by omega
    have hcx : ∀ {w : World}, w.heap[b]? = some (cb (ic m ++ rest) 3) → w.cell? ⟨b, 0 + ((i : Int).toNat) * 1, none⟩ = some (.int .i64 x) := fun h => At.one h (by
      rw [Int.toNat_natCast, Nat.zero_add, Nat.mul_one, List.getElem?_append_left (by simp; omega)]
      exact ic_get hx)
    have hcy : ∀ {w : World}, w.heap[b]? = some (cb (ic m ++ rest) 3) → w.cell? ⟨b, 0 + (((l.length : Int) - 1 - i).toNat) * 1, none⟩ = some (.int .i64 y) := fun h => At.one h (by
      rw [ej, Nat.zero_add, Nat.mul_one, List.getElem?_append_left (by simp; omega)]
      exact ic_get hy)
    refine W_skip ?_
    refine W_seq ?_
    refine W_block ?_ -- 1
    -- region 3 DRAWS
    refine W_drawT hs Try.mixed [true] [false] 1 [0, 0, 0, 0, 0, 0, 48, 112, 0, 0, 768, 1792, 4083, 8179, 16383, 32767] [13, 15] [0, 1, 2, 3, 4, 5, 6, 7, 8, 9, 10, 11, 12, 13, 14, 15] (by decide +kernel) ?_
    intro w hs; have hR := hs.mask [true]
    refine dq_rp hR rfl rfl rfl (fun w => r_move) ?_
    refine dq_rp hR rfl rfl rfl (fun w => r_move) ?_
    refine dq_rp hR rfl rfl rfl (fun w => r_move) ?_
    refine dq_rp hR rfl rfl rfl (fun w => r_move) ?_
    refine dq_rp hR rfl rfl rfl (fun w => r_move) ?_
    refine dq_rp hR rfl rfl rfl (fun w => r_move) ?_
    refine dq_rp hR rfl rfl rfl (fun w => r_index rfl rfl sl35 (by omega) (by omega)) ?_
    refine dq_r1 hR rfl rfl (by decide) rfl (fun w hR => r_load1 rfl ty3 (hcy (hR.own (i := 0) rfl))) ?_
    refine dq_rp hR rfl rfl rfl (fun w => r_move) ?_
    refine dq_rp hR rfl rfl rfl (fun w => r_move) ?_
    refine dq_rp hR rfl rfl rfl (fun w => r_index rfl rfl sl35 (by omega) (by omega)) ?_
    refine dq_r1 hR rfl rfl (by decide) rfl (fun w hR => r_load1 rfl ty3 (hcx (hR.own (i := 0) rfl))) ?_
    refine dq_rp hR rfl rfl rfl (fun w => r_index rfl rfl sl35 (by omega) (by omega)) ?_
    refine dq_e hR rfl rfl rfl (o_store (i := 0) (vs := [.int .i64 y]) hs rfl rfl ty3 rfl (by simp [Value.oneCell']) (by rw [Int.toNat_natCast]; simp; omega) ?_); intro w hs
    have hR := hs.mask [false]
    have hs : St w0 (ks c) [[(b, cb (ic (m.set i y) ++ rest) 3)]] w := hs.cast (by rw [← ic_set rest y (by omega)]; simp)
    refine dq_rp hR rfl rfl rfl (fun w => r_index rfl rfl sl35 (by omega) (by omega)) ?_
    refine dq_e hR rfl rfl rfl (o_store (i := 0) (vs := [.int .i64 x]) hs rfl rfl ty3 rfl (by simp [Value.oneCell']) (by rw [ej]; simp; omega) ?_); intro w hs
    have hR := hs.mask [false]
    have hs : St w0 (ks c) [[(b, cb (ic ((m.set i y).set (l.length - 1 - i) x) ++ rest) 3)]] w := hs.cast (by rw [← ic_set rest x (by simp; omega), ej]; simp)
    refine dq_z hR ?_
    have hr' := rev_step hr hlt hx hy
    -- region 2
    refine W_region (by decide +kernel) ?_
    refine sq_r r_move rfl ?_
    refine sq_r (r_add rfl rfl (wrap_small (by omega) (by omega))) rfl ?_
    refine sq_r r_move rfl ?_
    refine sq_r (r_sub (c := (l.length : Int) - 1 - ((i + 1 : Nat) : Int)) rfl rfl (by rw [wrap_small (by omega) (by omega)]; omega)) rfl ?_
    refine sq_r r_assign rfl ?_
    refine sq_r r_assign rfl ?_
    refine sq_z ?_
    refine ⟨i + 1, ⟨_, _, _, ov_self ⟨rfl, rfl, rfl, trivial⟩, hr', ⟨by rw [ic_length, hr'.1]; simp, .inr ⟨b, cap, rest, rfl, rfl, h3, h4, ?_⟩⟩, hs⟩, by omega⟩
    rw [List.length_append, ic_length, hr'.1, ← h5, List.length_append, ic_length, hml]
  · have hge : l.length ≤ 2 * i + 1 := by have := of_decide_eq_false hc; omega
    rw [rev_end hr hge] at hv1
    refine W_exit ?_ -- 0
    repeat with_reducible refine thenQ_exit ?_
    refine blockQ_exit ?_
    exact ret0 rfl (fin (c' := c1) hs hv1 (by simp))

end Go.Proofs.Ytfojeengapebmaa
