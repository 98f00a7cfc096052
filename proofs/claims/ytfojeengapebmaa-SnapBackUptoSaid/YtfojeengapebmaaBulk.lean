/-
  Layer 17: chains that came in, opened, with how much they hold. No condition.
-/
import Derived.Test.YtfojeengapebmaaOpen
import Derived.Test.YtfojeengapebmaaMany
namespace Go.Proofs.Ytfojeengapebmaa
open Go.Eng Go.ChangeShapes Go.WideShapes Go.ChangeAt Go.RowKit Go.Deep

section
variable {H : Type} {enc : TypeId × Value → H} {P : Program} {w : World} {base : Nat} {spare : Nat → Bool} {held : Bool}
theorem bulk_all (l : List (DataW H)) : Rows.uptoBulkAll l = (l.map Rows.uptoBulk).sum := by
  induction l with
  | nil => simp [Rows.uptoBulkAll]
  | cons d r ih => simp [Rows.uptoBulkAll, ih]
theorem bulk_pos (d : DataW H) : 1 ≤ Rows.uptoBulk d := by
  cases d with
  | lit x => cases x <;> simp [Rows.uptoBulk]
  | _ => simp [Rows.uptoBulk]
theorem sum_one {α : Type} (xs : List α) : (xs.map fun _ => 1).sum = xs.length := by
  induction xs with
  | nil => rfl
  | cons x l ih => simp only [List.map_cons, List.sum_cons, List.length_cons, ih]; omega
theorem le_sum {n : Nat} {l : List Nat} (h : n ∈ l) : n ≤ l.sum := by
  induction l with
  | nil => cases h
  | cons x l ih =>
    simp only [List.sum_cons]
    rcases List.mem_cons.1 h with rfl | h
    · omega
    · have := ih h; omega
theorem sum_le {α : Type} {μ : α → Nat} {g : Nat → Nat} : ∀ (xs : List α) (k : Nat), (∀ i y, xs[i]? = some y → μ y ≤ g (k + i)) → (xs.map μ).sum ≤ ((List.range' k xs.length).map g).sum
  | [], _, _ => by simp
  | x :: xs, k, h => by
    have h0 := h 0 x rfl
    have ih := sum_le xs (k + 1) fun i y hi => by
      have := h (i + 1) y (by simpa using hi)
      rw [show k + 1 + i = k + (i + 1) from by omega]
      exact this
    simp only [List.map_cons, List.sum_cons, List.length_cons, List.range'_succ]
    simp only [Nat.add_zero] at h0
    omega
theorem open_genD {T E s by_ : Nat} (hT : slOf P T = some (E, s, by_)) (hs0 : 0 < s) {α : Type} (R : α → List Value → Prop) (μ : α → Nat) (hR : ∀ fuel cs x, DataW.trod enc P w base spare held fuel E cs = some x → cs.length = s → ∃ y, R y cs ∧ μ y ≤ Rows.uptoBulk x.1)
    {fuel : Nat} {cs : List Value} {x : DataW H × List MemPlace} (hx : DataW.trod enc P w base spare held fuel T cs = some x) :
    ∃ (v : Value) (xs : List α) (a : Option Addr) (cap : Nat), cs = [v] ∧ v = .slice a xs.length cap ∧ (xs.map μ).sum + 1 ≤ Rows.uptoBulk x.1 ∧ ∀ i y, xs[i]? = some y → ∃ b off c, a = some ⟨b, off, none⟩ ∧ b < w.heap.size ∧ c.length = s ∧ At w b (off + i * s) c ∧ R y c := by
  obtain ⟨inf, hu, hinf, rfl, rfl⟩ := slOf_parts hT
  have hcE : P.cellsOf E = inf.size := by simp [Program.cellsOf, hinf]
  rcases open_slice hu hx with ⟨rfl, rfl⟩ | ⟨a, len, cap, m, n, D, Pl, rfl, _, hle, hm, hmm, rfl, hall⟩
  · exact ⟨_, [], none, 0, rfl, rfl, bulk_pos _, by simp⟩
  · have hlm : len ≤ m := by rw [hmm]; split <;> omega
    obtain ⟨xs, hxl, hxs⟩ := list_of (R := fun i (y : α) => ∃ c : List Value, c.length = inf.size ∧ (∀ j (u : Value), c[j]? = some u → w.cell? (a.add (i * inf.size + j)) = some u) ∧ R y c ∧ μ y ≤ Rows.uptoBulk (D i)) len fun i hi => by
      obtain ⟨c, hcs, hd⟩ := hall i (by omega)
      obtain ⟨_, hcl, hcc⟩ := World.cells?_some hcs
      obtain ⟨y, hy, hμ⟩ := hR _ _ _ hd (by rw [hcl, hcE])
      refine ⟨y, c, by rw [hcl, hcE], fun j u hj => ?_, hy, hμ⟩
      have hjl : j < c.length := (List.getElem?_eq_some_iff.1 hj).1
      have := hcc j (by omega)
      rw [hcE] at this
      rw [Addr.add_add] at this
      rw [this, hj]
    refine ⟨_, xs, some a, cap, rfl, by rw [hxl], ?_, fun i y hi => ?_⟩
    · have h1 := sum_le (μ := μ) (g := fun i => Rows.uptoBulk (D i)) xs 0 fun i y hi => by
        obtain ⟨_, _, _, _, h⟩ := hxs i y hi
        rw [Nat.zero_add]
        exact h
      rw [hxl, ← List.range_eq_range'] at h1
      simp only [Rows.uptoBulk, bulk_all, List.map_map]
      simp only [Function.comp_def]
      omega
    have hi0 : 0 < xs.length := by have := (List.getElem?_eq_some_iff.1 hi).1; omega
    obtain ⟨c0, hl0, h0, _⟩ := hxs 0 _ (List.getElem?_eq_getElem hi0)
    have h2 := h0 0 _ (List.getElem?_eq_getElem (by omega))
    have hsp : a.spot = none := by
      have := World.cell?_spot h2
      simpa [Addr.add] using this
    obtain ⟨c, hcl, hcc, hy, _⟩ := hxs i y hi
    obtain ⟨b, off, sp⟩ := a
    simp only at hsp
    subst hsp
    refine ⟨b, off, c, rfl, by rw [add_eq] at h2; exact cells_lt h2, hcl, fun j u hj => ?_, hy⟩
    have := hcc j u hj
    rw [add_eq] at this
    rw [Nat.add_assoc]; exact this
end
section
variable {H : Type} {enc : TypeId × Value → H} {w : World} {base : Nat} {spare : Nat → Bool} {held : Bool}
theorem open_srcsD {fuel : Nat} {cs : List Value} {x : DataW H × List MemPlace} (hx : DataW.trod enc Try.prog w base spare held fuel 37 cs = some x) : ∃ v xs, cs = [v] ∧ RdS (· < w.heap.size) v xs w ∧ xs.length + 1 ≤ Rows.uptoBulk x.1 := by
  obtain ⟨v, xs, a, cap, hc, hv, hl, hall⟩ := open_genD sl37 (by decide) (fun (y : Sc) c => c = ic y.toList) (fun _ => 1) (fun fuel cs x hx _ => by
    obtain ⟨ys, hyl, hyc, _⟩ := flat_trod 5 69 4 flat69 cells69 hx
    exact ⟨⟨ys.toArray, by simpa using hyl⟩, by simpa [Vector.toList] using hyc, bulk_pos _⟩) hx
  refine ⟨v, xs, hc, ⟨a, cap, hv, fun i y hi => ?_⟩, by rw [sum_one] at hl; exact hl⟩
  obtain ⟨b, off, c, ha, hb, _, hat, rfl⟩ := hall i y hi
  exact ⟨b, off, ha, hb, hat⟩
theorem open_linkD {fuel : Nat} {cs : List Value} {x : DataW H × List MemPlace} (hx : DataW.trod enc Try.prog w base spare held fuel 39 cs = some x) (hl : cs.length = 5) : ∃ l rv, cs = lkC l rv ∧ RdS (· < w.heap.size) rv l.regs w ∧ l.regs.length + 1 ≤ Rows.uptoBulk x.1 := by
  obtain ⟨l, rv, hc, hrd, _⟩ := open_link hx hl
  subst hc
  refine ⟨l, rv, rfl, hrd, ?_⟩
  obtain ⟨ys, m, _, rfl, _, hys, hall⟩ := DataW.trod_struct Try.underlying39 hx
  have hys : ys.length = 5 := hys
  obtain ⟨y4, e4⟩ : ∃ y, ys[4]? = some y := ⟨_, List.getElem?_eq_getElem (by omega)⟩
  have h4 : DataW.trod enc Try.prog w base spare held m 37 [rv] = ys[4]? := by simpa [cells37, lkC] using hall 4 _ rfl
  rw [e4] at h4
  obtain ⟨rv', xs, hc, hrd', hb⟩ := open_srcsD h4
  simp only [List.cons.injEq, and_true] at hc
  subst hc
  have hlen : xs.length = l.regs.length := by
    obtain ⟨_, _, e1, _⟩ := hrd
    obtain ⟨_, _, e2, _⟩ := hrd'
    rw [e1] at e2
    simp only [Value.slice.injEq] at e2
    exact e2.2.1.symm
  have hmem : Rows.uptoBulk y4.1 ≤ ((ys.map (·.1)).map Rows.uptoBulk).sum := by
    have : Rows.uptoBulk y4.1 ∈ (ys.map (·.1)).map Rows.uptoBulk := List.mem_map.2 ⟨_, List.mem_map.2 ⟨_, List.mem_of_getElem? e4, rfl⟩, rfl⟩
    exact le_sum this
  simp only [Rows.uptoBulk, bulk_all]
  omega
theorem sum_two (ls : List Lk) : (ls.map fun l => l.regs.length + 1).sum = ls.length + rgn ls := by
  induction ls with
  | nil => rfl
  | cons x l ih => simp only [List.map_cons, List.sum_cons, List.length_cons, rgn] at ih ⊢; omega
theorem open_linksD {fuel : Nat} {cs : List Value} {x : DataW H × List MemPlace} (hx : DataW.trod enc Try.prog w base spare held fuel 28 cs = some x) : ∃ v ls, cs = [v] ∧ RdL (· < w.heap.size) v ls w ∧ ls.length + rgn ls + 1 ≤ Rows.uptoBulk x.1 := by
  obtain ⟨v, ls, a, cap, hc, hv, hl, hall⟩ := open_genD sl28 (by decide) (fun (l : Lk) c => ∃ rv, c = lkC l rv ∧ RdS (· < w.heap.size) rv l.regs w) (fun l => l.regs.length + 1) (fun fuel cs x hx hl => by
    obtain ⟨l, rv, h1, h2, h3⟩ := open_linkD hx hl
    exact ⟨l, ⟨rv, h1, h2⟩, h3⟩) hx
  refine ⟨v, ls, hc, ⟨a, cap, hv, fun i y hi => ?_⟩, by rw [sum_two] at hl; exact hl⟩
  obtain ⟨b, off, c, ha, hb, _, hat, rv, rfl, hr⟩ := hall i y hi
  exact ⟨b, off, rv, ha, hb, hat, hr⟩
/-- A slice of chains, as an argument. -/
theorem open_chainsD {r : Reach} {b0 : Nat} {v : Value} {dt : DataW H} {ps : List MemPlace} (hval : Value.okWide Try.prog w r b0 22 v) (hd : DataW.Trod enc Try.prog w base spare held 22 v dt ps) : ∃ css, RdC (· < w.heap.size) v css w ∧ mny css ≤ Rows.uptoBulk dt := by
  obtain ⟨a, len, cap, rfl⟩ := okWide_slice Try.underlying22 hval
  obtain ⟨fuel, hx⟩ := hd
  obtain ⟨v, css, a', cap', hc, hv, hl, hall⟩ := open_genD sl22 (by decide) (fun (l : List Lk) c => ∃ cv, c = [cv] ∧ RdL (· < w.heap.size) cv l w) (fun c => c.length + rgn c + 1) (fun fuel cs x hx _ => by
    obtain ⟨cv, ls, h1, h2, h3⟩ := open_linksD hx
    exact ⟨ls, ⟨cv, h1, h2⟩, h3⟩) hx
  simp only [Value.cells, List.cons.injEq, and_true] at hc
  subst hc
  refine ⟨css, ⟨a', cap', hv, fun i y hi => ?_⟩, by simp only [mny]; simp only at hl; omega⟩
  obtain ⟨b, off, c, ha, hb, _, hat, cv, rfl, hr⟩ := hall i y hi
  exact ⟨b, off, cv, ha, hb, hat, hr⟩
end

end Go.Proofs.Ytfojeengapebmaa
