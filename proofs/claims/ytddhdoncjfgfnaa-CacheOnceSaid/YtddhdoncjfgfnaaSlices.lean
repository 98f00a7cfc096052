/-
  The engine: slices that came in, of whatever elements, opened element by element. No condition.
-/
import Derived.Test.YtddhdoncjfgfnaaLaws
namespace Go.Eng
open Go.ChangeShapes Go.WideShapes Go.ChangeAt Go.RowKit Go.Deep

section
variable {H : Type} {enc : TypeId × Value → H} {P : Program} {w : World} {base : Nat} {spare : Nat → Bool} {held : Bool}
/-- A list of what there is at each place. -/
theorem list_of {α : Type} {R : Nat → α → Prop} (n : Nat) (h : ∀ i, i < n → ∃ y, R i y) : ∃ xs : List α, xs.length = n ∧ ∀ i y, xs[i]? = some y → R i y := by
  induction n with
  | zero => exact ⟨[], rfl, by simp⟩
  | succ n ih =>
    obtain ⟨xs, hl, hx⟩ := ih fun i hi => h i (by omega)
    obtain ⟨y, hy⟩ := h n (by omega)
    refine ⟨xs ++ [y], by simp [hl], fun i z hz => ?_⟩
    by_cases hi : i < n
    · rw [List.getElem?_append_left (by omega)] at hz
      exact hx i z hz
    · have hi2 := (List.getElem?_eq_some_iff.1 hz).1
      simp only [List.length_append, List.length_cons, List.length_nil, hl] at hi2
      obtain rfl : i = n := by omega
      rw [List.getElem?_append_right (by omega), hl] at hz
      simp at hz; subst hz
      exact hy
theorem open_gen {T E s by_ : Nat} (hT : slOf P T = some (E, s, by_)) (hs0 : 0 < s) {α : Type} (R : α → List Value → Prop) (hR : ∀ fuel cs x, DataW.trod enc P w base spare held fuel E cs = some x → cs.length = s → ∃ y, R y cs)
    {fuel : Nat} {cs : List Value} {x : DataW H × List MemPlace} (hx : DataW.trod enc P w base spare held fuel T cs = some x) :
    ∃ (v : Value) (xs : List α) (a : Option Addr) (cap : Nat), cs = [v] ∧ v = .slice a xs.length cap ∧ xs.length ≤ maxLen ∧ ∀ i y, xs[i]? = some y → ∃ b off c, a = some ⟨b, off, none⟩ ∧ b < w.heap.size ∧ c.length = s ∧ At w b (off + i * s) c ∧ R y c := by
  obtain ⟨inf, hu, hinf, rfl, rfl⟩ := slOf_parts hT
  have hcE : P.cellsOf E = inf.size := by simp [Program.cellsOf, hinf]
  rcases open_slice hu hx with ⟨rfl, _⟩ | ⟨a, len, cap, m, n, D, Pl, rfl, _, hle, hm, hmm, _, hall⟩
  · exact ⟨_, [], none, 0, rfl, rfl, by simp, by simp⟩
  · have hlm : len ≤ m := by rw [hmm]; split <;> omega
    obtain ⟨xs, hxl, hxs⟩ := list_of (R := fun i (y : α) => ∃ c : List Value, c.length = inf.size ∧ (∀ j (u : Value), c[j]? = some u → w.cell? (a.add (i * inf.size + j)) = some u) ∧ R y c) len fun i hi => by
      obtain ⟨c, hcs, hd⟩ := hall i (by omega)
      obtain ⟨_, hcl, hcc⟩ := World.cells?_some hcs
      obtain ⟨y, hy⟩ := hR _ _ _ hd (by rw [hcl, hcE])
      refine ⟨y, c, by rw [hcl, hcE], fun j u hj => ?_, hy⟩
      have hjl : j < c.length := (List.getElem?_eq_some_iff.1 hj).1
      have := hcc j (by omega)
      rw [hcE] at this
      rw [Addr.add_add] at this
      rw [this, hj]
    refine ⟨_, xs, some a, cap, rfl, by rw [hxl], by omega, fun i y hi => ?_⟩
    have hi0 : 0 < xs.length := by have := (List.getElem?_eq_some_iff.1 hi).1; omega
    obtain ⟨c0, hl0, h0, _⟩ := hxs 0 _ (List.getElem?_eq_getElem hi0)
    have h2 := h0 0 _ (List.getElem?_eq_getElem (by omega))
    have hsp : a.spot = none := by
      have := World.cell?_spot h2
      simpa [Addr.add] using this
    obtain ⟨c, hcl, hcc, hy⟩ := hxs i y hi
    obtain ⟨b, off, sp⟩ := a
    simp only at hsp
    subst hsp
    refine ⟨b, off, c, rfl, by rw [add_eq] at h2; exact cells_lt h2, hcl, fun j u hj => ?_, hy⟩
    have := hcc j u hj
    rw [add_eq] at this
    rw [Nat.add_assoc]; exact this
end
end Go.Eng
