/-
  Layer 17, plain: a number as bytes, seven bits each, and back. No condition.
-/
import Derived.Test.YtfojeengapebmaaSize
namespace Go.Proofs.Ytfojeengapebmaa
open Go.Eng

/-- A number's bytes. -/
def encB (n : Nat) : List Int := if h : n < 128 then [(n : Int)] else ((n % 128 + 128 : Nat) : Int) :: encB (n / 128)
termination_by n
decreasing_by omega
theorem encB_small {n : Nat} (h : n < 128) : encB n = [(n : Int)] := by rw [encB, dif_pos h]
theorem encB_big {n : Nat} (h : ¬ n < 128) : encB n = ((n % 128 + 128 : Nat) : Int) :: encB (n / 128) := by rw [encB, dif_neg h]
def isB (l : List Int) : Prop := ∀ c ∈ l, 0 ≤ c ∧ c < 256
/-- Bytes read as a number: i of them were read. -/
def dB (i : Nat) : List Int → Option (Nat × List Int)
  | [] => none
  | c :: r => if 10 ≤ i then none else if i = 9 ∧ 1 < c then none else if c < 128 then (if 0 < c ∨ i = 0 then some (c.toNat, r) else none)
    else (dB (i + 1) r).map fun p => ((c - 128).toNat + 128 * p.1, p.2)
theorem encB_len : ∀ (k n : Nat), n < 128 ^ k → 0 < k → (encB n).length ≤ k
  | 0, _, _, h => absurd h (by decide)
  | k + 1, n, h, _ => by
    by_cases hn : n < 128
    · rw [encB_small hn]; simp
    · rw [encB_big hn, List.length_cons]
      have h1 : n / 128 < 128 ^ k := by
        rw [Nat.div_lt_iff_lt_mul (by decide)]
        rwa [Nat.pow_succ] at h
      have hk : 0 < k := by
        rcases Nat.eq_zero_or_pos k with rfl | h2
        · simp at h1; omega
        · exact h2
      have := encB_len k (n / 128) h1 hk
      omega
theorem encB_pos (n : Nat) : 1 ≤ (encB n).length := by
  by_cases hn : n < 128
  · rw [encB_small hn]; simp
  · rw [encB_big hn]; simp
theorem encB_isB : ∀ n, isB (encB n) := by
  intro n
  induction n using Nat.strongRecOn with
  | _ n ih =>
    by_cases hn : n < 128
    · rw [encB_small hn]; intro c hc; simp at hc; omega
    · rw [encB_big hn]
      intro c hc
      rcases List.mem_cons.1 hc with rfl | hc
      · omega
      · exact ih _ (by omega) c hc
theorem pw (i : Nat) : 2 ^ 64 / 128 ^ (i + 1) = 2 ^ 64 / 128 ^ i / 128 := by rw [Nat.pow_succ 128 i, Nat.div_div_eq_div_mul]
/-- What is written is read. -/
theorem dB_encB : ∀ (k i n : Nat) (r : List Int), i + k = 10 → n < 128 ^ k → (0 < i → 0 < n) → (i ≤ 9 → n < 2 ^ 64 / 128 ^ i) → dB i (encB n ++ r) = some (n, r)
  | 0, i, n, r, hik, hn, h0, _ => by
    simp at hn
    have := h0 (by omega)
    omega
  | k + 1, i, n, r, hik, hn, h0, h64 => by
    have hi : i ≤ 9 := by omega
    have h64' := h64 hi
    by_cases hs : n < 128
    · rw [encB_small hs]
      simp only [List.cons_append, List.nil_append, dB]
      rw [if_neg (by omega), if_neg, if_pos (by omega), if_pos (by omega)]
      · simp
      · rintro ⟨rfl, h⟩
        have : (2 : Nat) ^ 64 / 128 ^ 9 = 2 := by decide
        omega
    · rw [encB_big hs]
      have hi9 : i ≠ 9 := by
        rintro rfl
        have : (2 : Nat) ^ 64 / 128 ^ 9 = 2 := by decide
        omega
      have ih := dB_encB k (i + 1) (n / 128) r (by omega) (by
        rw [Nat.div_lt_iff_lt_mul (by decide)]
        rwa [Nat.pow_succ] at hn) (by omega) (fun h => by
        rw [pw]
        have h1 : n + 1 ≤ 2 ^ 64 / 128 ^ i := h64'
        have h2 : (2 ^ 64 / 128 ^ i) / 128 * 128 = 2 ^ 64 / 128 ^ i := by
          have : ∀ j, j ≤ 8 → (2 ^ 64 / 128 ^ j) / 128 * 128 = 2 ^ 64 / 128 ^ j := by decide
          exact this i (by omega)
        omega)
      simp only [List.cons_append, dB]
      rw [if_neg (by omega), if_neg (by omega), if_neg (by omega), ih]
      simp only [Option.map_some, Option.some.injEq, Prod.mk.injEq, and_true]
      omega
theorem dB_enc {n : Nat} (h : n < 2 ^ 64) (r : List Int) : dB 0 (encB n ++ r) = some (n, r) :=
  dB_encB 10 0 n r rfl (Nat.lt_of_lt_of_le h (by decide)) (by omega) (fun _ => by simpa using h)
/-- What is read was written. -/
theorem enc_dB : ∀ (l : List Int) (i n : Nat) (r : List Int), isB l → dB i l = some (n, r) → l = encB n ++ r ∧ (0 < i → 0 < n) ∧ i ≤ 9 ∧ n < 2 ^ 64 / 128 ^ i
  | [], _, _, _, _, h => by cases h
  | c :: l, i, n, r, hb, h => by
    simp only [dB] at h
    have hc := hb c (by simp)
    split at h
    · cases h
    rename_i hi
    split at h
    · cases h
    rename_i h9
    have hp : ∀ j, j ≤ 8 → 256 ≤ 2 ^ 64 / 128 ^ j := by decide
    have h9' : (2 : Nat) ^ 64 / 128 ^ 9 = 2 := by decide
    split at h
    · rename_i h128
      split at h
      · rename_i h0
        simp only [Option.some.injEq, Prod.mk.injEq] at h
        obtain ⟨rfl, rfl⟩ := h
        refine ⟨?_, by omega, by omega, ?_⟩
        · rw [encB_small (by omega)]
          simp only [List.cons_append, List.nil_append, List.cons.injEq, and_true]
          omega
        · by_cases e : i = 9
          · subst e
            rw [h9']
            have : ¬ 1 < c := fun h => h9 ⟨rfl, h⟩
            omega
          · have := hp i (by omega)
            omega
      · cases h
    · rename_i h128
      obtain ⟨⟨m, r'⟩, hm, he⟩ := Option.map_eq_some_iff.1 h
      simp only [Prod.mk.injEq] at he
      obtain ⟨rfl, rfl⟩ := he
      obtain ⟨e, h0, h1, h2⟩ := enc_dB l (i + 1) m r' (fun x hx => hb x (by simp [hx])) hm
      have hm0 := h0 (by omega)
      refine ⟨?_, by omega, by omega, ?_⟩
      · rw [encB_big (by omega), e]
        have e1 : ((c - 128).toNat + 128 * m) / 128 = m := by omega
        rw [e1]
        simp only [List.cons_append, List.cons.injEq, and_true]
        omega
      · rw [pw] at h2
        have : ((c - 128).toNat + 128 * m) < (2 ^ 64 / 128 ^ i / 128) * 128 := by omega
        have h3 := Nat.div_mul_le_self (2 ^ 64 / 128 ^ i) 128
        omega

/-- An int64 as a number. -/
def zig (n : Int) : Nat := if 0 ≤ n then (2 * n).toNat else (-2 * n - 1).toNat
def zag (n : Nat) : Int := if n % 2 = 0 then ((n / 2 : Nat) : Int) else -((n / 2 : Nat) : Int) - 1
theorem zag_zig (n : Int) : zag (zig n) = n := by
  unfold zag zig
  split <;> split <;> omega
theorem zig_zag (n : Nat) : zig (zag n) = n := by
  unfold zag zig
  split <;> split <;> omega
theorem zig_lt {n : Int} (h : -9223372036854775808 ≤ n ∧ n ≤ 9223372036854775807) : zig n < 2 ^ 64 := by
  unfold zig
  split <;> omega
theorem zag_in {n : Nat} (h : n < 2 ^ 64) : -9223372036854775808 ≤ zag n ∧ zag n ≤ 9223372036854775807 := by
  unfold zag
  split <;> omega

end Go.Proofs.Ytfojeengapebmaa
