/-
  The engine: maps as lists: what stands in them after a put or a delete. No condition.
-/
import Derived.Test.YtddhdoncjfgfnaaActs
namespace Go.Eng

section
variable {α β : Type} [DecidableEq α]
theorem mget_mem_iff {m : List (α × β × Nat)} (hnd : (mkeys m).Nodup) {a : α} {v : β} : mget m a = some v ↔ ∃ n, (a, v, n) ∈ m := by
  constructor
  · intro h
    unfold mget at h
    obtain ⟨r, hr, rfl⟩ := Option.map_eq_some_iff.1 h
    have h1 := List.find?_some hr
    simp at h1
    subst h1
    exact ⟨r.2.2, List.mem_of_find?_eq_some hr⟩
  · rintro ⟨n, h⟩
    induction m with
    | nil => cases h
    | cons x m ih =>
      simp only [mkeys, List.map_cons, List.nodup_cons] at hnd
      rcases List.mem_cons.1 h with rfl | h
      · simp [mget]
      · have hne : x.1 ≠ a := fun e => hnd.1 (by rw [e]; exact List.mem_map.2 ⟨_, h, rfl⟩)
        have := ih hnd.2 h
        unfold mget at this ⊢
        rw [List.find?_cons_of_neg (by simpa using hne)]
        exact this
theorem mget_eq_none {m : List (α × β × Nat)} {a : α} : mget m a = none ↔ ∀ r ∈ m, r.1 ≠ a := by
  unfold mget
  simp
theorem mem_mput {m : List (α × β × Nat)} {c : Nat} {a : α} {v : β} {r : α × β × Nat} (h : r ∈ mput m c a v) : (r ∈ m ∧ r.1 ≠ a) ∨ (r.1 = a ∧ r.2.1 = v) := by
  unfold mput at h
  split at h
  · obtain ⟨r', hr', rfl⟩ := List.mem_map.1 h
    split
    · rename_i e; exact .inr ⟨e, rfl⟩
    · rename_i e; exact .inl ⟨hr', e⟩
  · rename_i hc
    rcases List.mem_append.1 h with h | h
    · refine .inl ⟨h, fun e => hc ?_⟩
      exact List.any_eq_true.2 ⟨r, h, by simpa using e⟩
    · simp at h; subst h; exact .inr ⟨rfl, rfl⟩
theorem len_mput {m : List (α × β × Nat)} {c : Nat} {a : α} {v : β} : (mput m c a v).length = if (mget m a).isSome then m.length else m.length + 1 := by
  have e : m.any (fun r => r.1 = a) = (mget m a).isSome := by
    unfold mget
    rw [Option.isSome_map, List.isSome_find?]
  unfold mput
  rw [e]
  split <;> simp
theorem mget_mput_self {m : List (α × β × Nat)} {c : Nat} {a : α} {v : β} (hnd : (mkeys m).Nodup) : mget (mput m c a v) a = some v := by
  rw [mget_mem_iff (mkeys_mput hnd)]
  unfold mput
  split
  · rename_i h
    obtain ⟨r, hr, he⟩ := List.any_eq_true.1 h
    refine ⟨r.2.2, List.mem_map.2 ⟨r, hr, ?_⟩⟩
    have he : r.1 = a := by simpa using he
    rw [if_pos he, he]
  · exact ⟨c, by simp⟩
theorem mget_mput_ne {m : List (α × β × Nat)} {c : Nat} {a b : α} {v : β} (hne : b ≠ a) : mget (mput m c a v) b = mget m b := by
  unfold mput
  split
  · induction m with
    | nil => rfl
    | cons x m ih =>
      rename_i _
      have : ∀ (m : List (α × β × Nat)), mget (m.map fun r => if r.1 = a then (r.1, v, r.2.2) else r) b = mget m b := by
        intro m
        induction m with
        | nil => rfl
        | cons y m ih =>
          unfold mget at ih ⊢
          simp only [List.map_cons, List.find?_cons]
          by_cases hy : y.1 = a
          · have hyb : ¬ y.1 = b := fun e => hne (by rw [← e, hy])
            simp only [if_pos hy, hyb, decide_false]
            exact ih
          · simp only [if_neg hy]
            by_cases hyb : y.1 = b
            · simp [hyb]
            · simp only [hyb, decide_false]
              exact ih
      exact this _
  · unfold mget
    rw [List.find?_append]
    have : List.find? (fun r : α × β × Nat => decide (r.1 = b)) [(a, v, c)] = none := by
      simp only [List.find?_cons, List.find?_nil, decide_eq_false (show ¬ a = b from fun e => hne e.symm)]
    rw [this, Option.or_none]
theorem mget_mdel_self {m : List (α × β × Nat)} {a : α} : mget (mdel m a) a = none := by
  rw [mget_eq_none]
  intro r hr
  simpa using (List.mem_filter.1 hr).2
theorem mget_mdel_ne {m : List (α × β × Nat)} {a b : α} (hne : b ≠ a) : mget (mdel m a) b = mget m b := by
  unfold mget mdel
  rw [List.find?_filter]
  congr 2
  funext r
  by_cases h : r.1 = b
  · simp [h, hne]
  · simp [h]
end

end Go.Eng
