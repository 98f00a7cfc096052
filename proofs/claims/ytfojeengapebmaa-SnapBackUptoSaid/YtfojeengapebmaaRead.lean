/-
  Layer 17: the reader: a number. No condition.
-/
import Derived.Test.YtfojeengapebmaaEncode
namespace Go.Proofs.Ytfojeengapebmaa
open Go.Eng

/-- A slice of bytes that may be read. -/
def RB (B : Nat → Prop) (v : Value) (l : List Int) (w : World) : Prop :=
  ∃ a cap, v = .slice a l.length cap ∧ l.length ≤ cap ∧ ∀ (i : Nat) (x : Int), l[i]? = some x → ∃ b off, a = some ⟨b, off, none⟩ ∧ B b ∧ w.cell? ⟨b, off + i, none⟩ = some (.int .u8 x)
theorem RB.keep {B : Nat → Prop} {v : Value} {l : List Int} {w0 w : World} {F0 : List Nat} {cs : List Ck} (h : RB B v l w0) (hs : St w0 F0 cs w) (hB : ∀ b, B b → b ∉ F0) : RB B v l w := by
  obtain ⟨a, cap, hv, hl, hall⟩ := h
  refine ⟨a, cap, hv, hl, fun i x hi => ?_⟩
  obtain ⟨b, off, ha, hb, hc⟩ := hall i x hi
  exact ⟨b, off, ha, hb, keepC hc hs (hB b hb)⟩
theorem RB.tail {B : Nat → Prop} {b off n cap : Nat} {c : Int} {r : List Int} {w : World} (h : RB B (.slice (some ⟨b, off, none⟩) n cap) (c :: r) w) : RB B (.slice (some ⟨b, if cap = 1 then off else off + 1 * 1, none⟩) (n - 1) (cap - 1)) r w := by
  obtain ⟨a, cap', hv, hl, hall⟩ := h
  simp only [Value.slice.injEq] at hv
  obtain ⟨rfl, rfl, rfl⟩ := hv
  simp only [List.length_cons] at hl
  refine ⟨some ⟨b, if cap = 1 then off else off + 1 * 1, none⟩, cap - 1, by simp, by omega, fun i x hi => ?_⟩
  obtain ⟨b', off', ha, hb, hc⟩ := hall (i + 1) x (by simpa using hi)
  simp only [Option.some.injEq, Addr.mk.injEq] at ha
  obtain ⟨rfl, rfl, _⟩ := ha
  have hi1 : i < r.length := (List.getElem?_eq_some_iff.1 hi).1
  refine ⟨b, _, rfl, hb, ?_⟩
  rw [if_neg (by omega), show off + 1 * 1 + i = off + (i + 1) from by omega]
  exact hc
theorem pow128 (i : Nat) : 128 ^ i = 2 ^ (7 * i) := by rw [Nat.pow_mul]
theorem pow_le {i : Nat} (h : i ≤ 9) : 2 ^ (7 * i) ≤ 2 ^ 63 := Nat.pow_le_pow_right (by decide) (by omega)
theorem pow_le8 {i : Nat} (h : i ≤ 8) : 2 ^ (7 * i) ≤ 2 ^ 56 := Nat.pow_le_pow_right (by decide) (by omega)

set_option maxRecDepth 20000 in
set_option maxHeartbeats 4000000 in
theorem f37_calls (rb : Nat) (v0 : Value) (l : List Int) (hl : isB l) : CtrT Try.prog thr 37 #[.pointer (some ⟨rb, 0, none⟩)] [(rb, cb [v0] 85)] (RB (· ∉ [rb]) v0 l)
    (fun r c' => ∃ n rest v', dB 0 l = some (n, rest) ∧ r = .int .u64 (n : Int) ∧ c' = [(rb, cb [v'] 85)] ∧ ∀ B w, RB B v0 l w → RB B v' rest w) (dB 0 l = none) := by
  intro w0 hp hro
  have hs := hp.st
  have hmax : 4000000 ≤ maxLen := by decide +kernel
  refine calls_W (n := 57) Try.func37 rfl Try.ntmps37 (by simp) ?_
  refine W_seq ?_
  -- region 0
  refine W_region (by decide +kernel) ?_
  refine sq_r r_assign rfl ?_
  refine sq_z ?_
  refine W_seq ?_
  -- region 1
  refine W_region (by decide +kernel) ?_
  refine sq_r r_assign rfl ?_
  refine sq_z ?_
  refine W_seq ?_
  -- region 2
  refine W_region (by decide +kernel) ?_
  refine sq_r r_assign rfl ?_
  refine sq_z ?_
  refine W_block ?_ -- 0
  -- LOOP
  refine W_loop (fun (i : Nat) f w => ∃ (g : Fm) (v' : Value) (rest : List Int) (acc : Nat), f = ov [(0, .pointer (some ⟨rb, 0, none⟩)), (3, .int .u64 (acc : Int)), (4, .int .i64 ((7 * i : Nat) : Int))] g ∧ i ≤ 9 ∧ acc < 2 ^ (7 * i) ∧ dB 0 l = (dB i rest).map (fun p => (acc + 2 ^ (7 * i) * p.1, p.2)) ∧ isB rest ∧ (∀ B w, RB B v0 l w → RB B v' rest w) ∧ St w0 (ks [(rb, cb [v0] 85)]) [[(rb, cb [v'] 85)]] w) (fun i => 10 - i) 0 ?_ ?_
  · exact ⟨_, v0, l, 0, ov_self ⟨rfl, rfl, rfl, trivial⟩, by omega, by simp, by simp, hl, fun _ _ h => h, hs⟩
  clear hs
  rintro i f w ⟨g, v', rest, acc, rfl, hi, hacc, hdb, hrest, hrb, hs⟩
  have hR : ∀ {w : World} {cs : List Ck}, St w0 (ks [(rb, cb [v0] 85)]) cs w → RB (· ∉ [rb]) v' rest w := fun hs => hrb _ _ (hro.keep hs fun _ h => h)
  have hR0 := hR hs
  obtain ⟨a, cap, rfl, hcap, hall⟩ := hR0
  have hbad : dB i rest = none → dB 0 l = none := fun h => by rw [hdb, h]; rfl
  refine W_seq ?_
  refine W_block ?_ -- 1
  refine W_seq ?_
  cases rest with
  | nil =>
    -- region 4
    refine W_region (by decide +kernel) ?_
    refine sq_r r_move rfl ?_
    refine sq_r (r_nilCheck rfl) rfl ?_
    refine sq_r (r_field rfl fa85_0) rfl ?_
    refine sq_r (r_load1 rfl ty42 (At.one (hs.own (i := 0) rfl) rfl)) rfl ?_
    refine sq_r (r_lenS Try.underlying42 rfl) rfl ?_
    refine sq_r (r_cmp (r := false) rfl rfl rfl) rfl ?_
    refine sq_r r_move rfl ?_
    refine sq_n rfl ?_
    refine sq_n rfl ?_
    refine sq_r (r_pick (b := false) rfl) rfl ?_
    refine sq_e rfl (o_callT0 cb30 rfl rfl (f30_calls false 170 (by decide)) hs trivial (fun k w hk hb hs => .inr ⟨k, hk, rfl, hbad rfl, hs⟩) ?_)
    rintro v w ⟨_, hd⟩ hs
    cases hd
  | cons c r =>
  obtain ⟨b, off, rfl, hBb, hcell⟩ := hall 0 c rfl
  have hRc : ∀ {w : World} {cs : List Ck}, St w0 (ks [(rb, cb [v0] 85)]) cs w → w.cell? ⟨b, off, none⟩ = some (.int .u8 c) := fun hs => by
    obtain ⟨a, cap', hv, _, hall⟩ := hR hs
    simp only [Value.slice.injEq] at hv
    obtain ⟨b', off', ha, _, hc⟩ := hall 0 c rfl
    rw [← hv.1] at ha
    simp only [Option.some.injEq, Addr.mk.injEq] at ha
    obtain ⟨rfl, rfl, _⟩ := ha
    exact hc
  obtain ⟨hc0, hc1⟩ := hrest c (by simp)
  have hrest' : isB r := fun x hx => hrest x (by simp [hx])
  have hlen : (c :: r).length = r.length + 1 := rfl
  have htail : ∀ B w, RB B v0 l w → RB B (.slice (some ⟨b, if cap = 1 then off else off + 1 * 1, none⟩) ((c :: r).length - 1) (cap - 1)) r w := fun B w h => (hrb B w h).tail
  -- region 4
  refine W_region (by decide +kernel) ?_
  refine sq_r r_move rfl ?_
  refine sq_r (r_nilCheck rfl) rfl ?_
  refine sq_r (r_field rfl fa85_0) rfl ?_
  refine sq_r (r_load1 rfl ty42 (At.one (hs.own (i := 0) rfl) rfl)) rfl ?_
  refine sq_r (r_lenS Try.underlying42 rfl) rfl ?_
  refine sq_r (r_cmp (r := true) rfl rfl (by simp [cmpB])) rfl ?_
  refine sq_r r_move rfl ?_
  refine sq_r r_move rfl ?_
  refine sq_r (r_cmp (r := true) rfl rfl (by simp [cmpB]; omega)) rfl ?_
  refine sq_r (r_pick (b := true) rfl) rfl ?_
  refine sq_e rfl (o_callT0 cb30 rfl rfl (f30_calls true 170 (by decide)) hs trivial (fun k w hk hb hs => by cases hb) ?_)
  rintro v w ⟨rfl, _⟩ hs
  refine sq_z ?_
  refine W_seq ?_
  -- region 5
  refine W_region (by decide +kernel) ?_
  refine sq_r r_move rfl ?_
  refine sq_r (r_nilCheck rfl) rfl ?_
  refine sq_r (r_field rfl fa85_0) rfl ?_
  refine sq_r (r_load1 rfl ty42 (At.one (hs.own (i := 0) rfl) rfl)) rfl ?_
  refine sq_r (r_index (n := 0) rfl rfl sl42 (by omega) (by rw [hlen]; omega)) rfl ?_
  refine sq_r (r_load1 (v := .int .u8 c) rfl ty5 (by simpa using (hRc hs))) rfl ?_
  refine sq_r r_assign rfl ?_
  refine sq_z ?_
  refine W_seq ?_
  -- region 6
  refine W_region (by decide +kernel) ?_
  refine sq_r r_move rfl ?_
  refine sq_r r_move rfl ?_
  refine sq_r (r_nilCheck rfl) rfl ?_
  refine sq_r (r_field rfl fa85_0) rfl ?_
  refine sq_r (r_load1 rfl ty42 (At.one (hs.own (i := 0) rfl) rfl)) rfl ?_
  refine sq_r (r_sliceLo (l := 1) sl42 rfl rfl (by decide) (by rw [hlen]; omega)) rfl ?_
  refine sq_r (r_nilCheck rfl) rfl ?_
  refine sq_r (r_field rfl fa85_0) rfl ?_
  refine sq_e rfl (o_store (i := 0) (vs := [.slice (some ⟨b, if cap = 1 then off else off + 1 * 1, none⟩) ((c :: r).length - 1) (cap - 1)]) hs rfl rfl ty42 rfl (by simp [Value.oneCell']) (by simp) ?_); intro w hs
  refine sq_z ?_
  have hs : St w0 (ks [(rb, cb [v0] 85)]) [[(rb, cb [.slice (some ⟨b, if cap = 1 then off else off + 1 * 1, none⟩) ((c :: r).length - 1) (cap - 1)] 85)]] w := hs
  generalize Value.slice (some ⟨b, if cap = 1 then off else off + 1 * 1, none⟩) ((c :: r).length - 1) (cap - 1) = vt at htail hs ⊢
  refine W_mid (M := fun f w => ∃ g, f = ov [(0, .pointer (some ⟨rb, 0, none⟩)), (3, .int .u64 (acc : Int)), (4, .int .i64 ((7 * i : Nat) : Int)), (5, .int .u8 c)] g ∧ (i = 9 → c ≤ 1) ∧ St w0 (ks [(rb, cb [v0] 85)]) [[(rb, cb [vt] 85)]] w) ?_ (fun f w hM => ?_)
  · -- region 7
    refine W_region (by decide +kernel) ?_
    refine sq_r r_move rfl ?_
    by_cases h9 : i = 9
    · refine sq_r (r_cmp (r := false) rfl rfl (by simp [cmpB]; omega)) rfl ?_
      refine sq_r r_move rfl ?_
      refine sq_r r_move rfl ?_
      refine sq_r (r_cmp (r := decide (c ≤ 1)) rfl rfl rfl) rfl ?_
      refine sq_r (r_pick (b := false) rfl) rfl ?_
      refine sq_e rfl (o_callT0 cb30 rfl rfl (f30_calls (decide (c ≤ 1)) 170 (by decide)) hs trivial (fun k w hk hb hs => .inr ⟨k, hk, rfl, hbad (by
        have := of_decide_eq_false hb
        simp only [dB]
        rw [if_neg (by omega), if_pos ⟨h9, by omega⟩]), hs⟩) ?_)
      rintro v w ⟨rfl, hd⟩ hs
      refine sq_z ?_
      exact ⟨_, ov_self ⟨rfl, rfl, rfl, rfl, trivial⟩, fun _ => of_decide_eq_true hd, hs⟩
    · refine sq_r (r_cmp (r := true) rfl rfl (by simp [cmpB]; omega)) rfl ?_
      refine sq_r r_move rfl ?_
      refine sq_n rfl ?_
      refine sq_n rfl ?_
      refine sq_r (r_pick (b := true) rfl) rfl ?_
      refine sq_e rfl (o_callT0 cb30 rfl rfl (f30_calls true 170 (by decide)) hs trivial (fun k w hk hb hs => by cases hb) ?_)
      rintro v w ⟨rfl, hd⟩ hs
      refine sq_z ?_
      exact ⟨_, ov_self ⟨rfl, rfl, rfl, rfl, trivial⟩, fun h => absurd h h9, hs⟩
  obtain ⟨g, rfl, h9, hs⟩ := hM
  obtain ⟨m, hm⟩ : ∃ m : Nat, c % 128 = m := ⟨(c % 128).toNat, by omega⟩
  have hm128 : m < 128 := by omega
  have hpos : 0 < 2 ^ (7 * i) := Nat.two_pow_pos _
  have hfit : acc + m * 2 ^ (7 * i) < 2 ^ 64 := by
    by_cases h : i = 9
    · have h1 := h9 h
      have hm1 : m ≤ 1 := by omega
      subst h
      have : m * 2 ^ (7 * 9) ≤ 1 * 2 ^ (7 * 9) := Nat.mul_le_mul_right _ hm1
      have e1 : (2 : Nat) ^ (7 * 9) = 9223372036854775808 := by decide
      have e2 : (2 : Nat) ^ 64 = 18446744073709551616 := by decide
      omega
    · have hp := pow_le8 (i := i) (by omega)
      have : m * 2 ^ (7 * i) ≤ 127 * 2 ^ 56 := Nat.mul_le_mul (by omega) hp
      have e1 : (127 : Nat) * 2 ^ 56 = 9151314442816847872 := by decide
      have e2 : (2 : Nat) ^ 64 = 18446744073709551616 := by decide
      have e3 : (2 : Nat) ^ 56 = 72057594037927936 := by decide
      omega
  refine W_seq ?_
  -- region 8
  refine W_region (by decide +kernel) ?_
  refine sq_r r_move rfl ?_
  refine sq_r r_move rfl ?_
  refine sq_r (r_and (c := (m : Int)) rfl rfl (by rw [← hm]; exact and127 ⟨hc0, hc1⟩)) rfl ?_
  refine sq_r (r_conv (m := (m : Int)) Try.underlying5 Try.underlying94 rfl (by rw [wrap_u64]; omega)) rfl ?_
  refine sq_r r_move rfl ?_
  refine sq_r (r_shl (b := 7 * i) (c := ((m * 2 ^ (7 * i) : Nat) : Int)) rfl rfl (by
    rw [wrap_u64, show min (7 * i) IntKind.u64.bits = 7 * i from Nat.min_eq_left (by show 7 * i ≤ 64; omega)]
    have e : (m : Int) * 2 ^ (7 * i) = ((m * 2 ^ (7 * i) : Nat) : Int) := by push_cast; rfl
    rw [e]
    omega)) rfl ?_
  refine sq_r (r_or (c := ((acc + m * 2 ^ (7 * i) : Nat) : Int)) rfl rfl (or_add hacc hfit)) rfl ?_
  refine sq_r r_assign rfl ?_
  refine sq_z ?_
  refine W_seq ?_
  -- region 9
  refine W_region (by decide +kernel) ?_
  refine sq_r r_move rfl ?_
  refine sq_r (r_cmp rfl rfl rfl) rfl ?_
  refine sq_z ?_
  have hdc : dB i (c :: r) = if c < 128 then (if 0 < c ∨ i = 0 then some (c.toNat, r) else none) else (dB (i + 1) r).map fun p => ((c - 128).toNat + 128 * p.1, p.2) := by
    simp only [dB]
    rw [if_neg (by omega), if_neg (fun h => by have := h9 h.1; omega)]
  refine W_cond rfl rfl (fun hq => ?_) (fun hq => ?_)
  · have hq : c < 128 := of_decide_eq_true hq
    rw [if_pos hq] at hdc
    refine W_mid (M := fun f w => ∃ g, f = ov [(3, .int .u64 ((acc + m * 2 ^ (7 * i) : Nat) : Int))] g ∧ (0 < c ∨ i = 0) ∧ St w0 (ks [(rb, cb [v0] 85)]) [[(rb, cb [vt] 85)]] w) ?_ (fun f w hM => ?_)
    · -- region 10
      refine W_region (by decide +kernel) ?_
      refine sq_r r_move rfl ?_
      by_cases hc : 0 < c
      · refine sq_r (r_cmp (r := true) rfl rfl (by simp [cmpB]; omega)) rfl ?_
        refine sq_r r_move rfl ?_
        refine sq_n rfl ?_
        refine sq_n rfl ?_
        refine sq_r (r_pick (b := true) rfl) rfl ?_
        refine sq_e rfl (o_callT0 cb30 rfl rfl (f30_calls true 170 (by decide)) hs trivial (fun k w hk hb hs => by cases hb) ?_)
        rintro v w ⟨rfl, hd⟩ hs
        refine sq_z ?_
        exact ⟨_, ov_self ⟨rfl, trivial⟩, .inl hc, hs⟩
      · refine sq_r (r_cmp (r := false) rfl rfl (by simp [cmpB]; omega)) rfl ?_
        refine sq_r r_move rfl ?_
        refine sq_r r_move rfl ?_
        refine sq_r (r_cmp (r := decide (((7 * i : Nat) : Int) = 0)) rfl rfl rfl) rfl ?_
        refine sq_r (r_pick (b := false) rfl) rfl ?_
        refine sq_e rfl (o_callT0 cb30 rfl rfl (f30_calls (decide (((7 * i : Nat) : Int) = 0)) 170 (by decide)) hs trivial (fun k w hk hb hs => .inr ⟨k, hk, rfl, hbad (by rw [hdc, if_neg fun h => h.elim hc (fun h => of_decide_eq_false hb (by omega))]), hs⟩) ?_)
        rintro v w ⟨rfl, hd⟩ hs
        refine sq_z ?_
        exact ⟨_, ov_self ⟨rfl, trivial⟩, (have := of_decide_eq_true hd; .inr (by omega)), hs⟩
    obtain ⟨g, rfl, hok, hs⟩ := hM
    rw [if_pos hok] at hdc
    refine W_seq ?_
    -- region 11
    refine W_region (by decide +kernel) ?_
    refine sq_r r_move rfl ?_
    refine sq_r r_assign rfl ?_
    refine sq_z ?_
    refine W_ret ?_
    repeat with_reducible first | refine thenQ_ret ?_ | refine blockQ_ret ?_
    have hcm : c.toNat = m := by omega
    refine ret1 (v := .int .u64 ((acc + m * 2 ^ (7 * i) : Nat) : Int)) rfl (by decide) rfl (finT (c' := [(rb, cb [vt] 85)]) hs ⟨acc + m * 2 ^ (7 * i), r, vt, ?_, rfl, rfl, htail⟩ (by simp))
    rw [hdb, hdc, hcm]
    show some (acc + 2 ^ (7 * i) * m, r) = _
    rw [Nat.mul_comm (2 ^ (7 * i)) m]
  · have hq : ¬ c < 128 := of_decide_eq_false hq
    rw [if_neg hq] at hdc
    refine W_skip ?_
    -- region 3
    refine W_region (by decide +kernel) ?_
    refine sq_r r_move rfl ?_
    refine sq_r (r_add (c := ((7 * (i + 1) : Nat) : Int)) rfl rfl (by rw [wrap_small (by omega) (by omega)]; omega)) rfl ?_
    refine sq_r r_assign rfl ?_
    refine sq_z ?_
    have hi8 : i ≤ 8 := by
      by_cases h : i = 9
      · have := h9 h; omega
      · omega
    have hpw : 2 ^ (7 * (i + 1)) = 128 * 2 ^ (7 * i) := by rw [show 7 * (i + 1) = 7 + 7 * i from by omega, Nat.pow_add]
    refine ⟨i + 1, ⟨_, vt, r, acc + m * 2 ^ (7 * i), ov_self ⟨rfl, rfl, rfl, trivial⟩, by omega, ?_, ?_, hrest', htail, hs⟩, by omega⟩
    · rw [hpw]
      have : m * 2 ^ (7 * i) ≤ 127 * 2 ^ (7 * i) := Nat.mul_le_mul_right _ (by omega)
      omega
    · rw [hdb, hdc, Option.map_map, hpw]
      congr 1
      funext p
      simp only [Function.comp_def, Prod.mk.injEq, and_true]
      have : (c - 128).toNat = m := by omega
      rw [this, Nat.mul_add, Nat.mul_comm (2 ^ (7 * i)) m, Nat.mul_comm 128 (2 ^ (7 * i)), Nat.mul_assoc]
      omega

end Go.Proofs.Ytfojeengapebmaa
