/-
  Layer 17: arguments that are links, opened. No condition.
-/
import Derived.Test.YtfojeengapebmaaAwake
import Derived.Test.YtfojeengapebmaaSlices
namespace Go.Proofs.Ytfojeengapebmaa
open Go.Eng Go.ChangeShapes Go.WideShapes Go.ChangeAt Go.RowKit Go.Deep

section
variable {H : Type} {enc : TypeId × Value → H} {w : World} {base : Nat} {spare : Nat → Bool} {held : Bool}
theorem cells69 : Try.prog.cellsOf 69 = 4 := by kernel_rfl
theorem cells3 : Try.prog.cellsOf 3 = 1 := by kernel_rfl
theorem cells37 : Try.prog.cellsOf 37 = 1 := by kernel_rfl
theorem open_srcs {fuel : Nat} {cs : List Value} {x : DataW H × List MemPlace} (hx : DataW.trod enc Try.prog w base spare held fuel 37 cs = some x) : ∃ v xs, cs = [v] ∧ RdS (· < w.heap.size) v xs w ∧ xs.length ≤ maxLen := by
  obtain ⟨v, xs, a, cap, hc, hv, hl, hall⟩ := open_gen sl37 (by decide) (fun (y : Sc) c => c = ic y.toList) (fun fuel cs x hx _ => by
    obtain ⟨ys, hyl, hyc, _⟩ := flat_trod 5 69 4 flat69 cells69 hx
    exact ⟨⟨ys.toArray, by simpa using hyl⟩, by simpa [Vector.toList] using hyc⟩) hx
  refine ⟨v, xs, hc, ⟨a, cap, hv, fun i y hi => ?_⟩, hl⟩
  obtain ⟨b, off, c, ha, hb, _, hat, rfl⟩ := hall i y hi
  exact ⟨b, off, ha, hb, hat⟩
theorem open_link {fuel : Nat} {cs : List Value} {x : DataW H × List MemPlace} (hx : DataW.trod enc Try.prog w base spare held fuel 39 cs = some x) (hl : cs.length = 5) : ∃ l rv, cs = lkC l rv ∧ RdS (· < w.heap.size) rv l.regs w ∧ l.regs.length ≤ maxLen := by
  obtain ⟨c0, c1, c2, c3, c4, rfl⟩ : ∃ c0 c1 c2 c3 c4, cs = [c0, c1, c2, c3, c4] := by
    match cs, hl with
    | [c0, c1, c2, c3, c4], _ => exact ⟨c0, c1, c2, c3, c4, rfl⟩
  obtain ⟨ys, m, _, _, _, hys, hall⟩ := DataW.trod_struct Try.underlying39 hx
  have hys : ys.length = 5 := hys
  have get : ∀ i, i < 5 → ∃ y, ys[i]? = some y := fun i hi => ⟨_, List.getElem?_eq_getElem (by omega)⟩
  obtain ⟨y0, e0⟩ := get 0 (by decide)
  obtain ⟨y1, e1⟩ := get 1 (by decide)
  obtain ⟨y2, e2⟩ := get 2 (by decide)
  obtain ⟨y3, e3⟩ := get 3 (by decide)
  obtain ⟨y4, e4⟩ := get 4 (by decide)
  have h0 : DataW.trod enc Try.prog w base spare held m 3 [c0] = ys[0]? := by simpa [cells3] using hall 0 _ rfl
  have h1 : DataW.trod enc Try.prog w base spare held m 3 [c1] = ys[1]? := by simpa [cells3] using hall 1 _ rfl
  have h2 : DataW.trod enc Try.prog w base spare held m 3 [c2] = ys[2]? := by simpa [cells3] using hall 2 _ rfl
  have h3 : DataW.trod enc Try.prog w base spare held m 3 [c3] = ys[3]? := by simpa [cells3] using hall 3 _ rfl
  have h4 : DataW.trod enc Try.prog w base spare held m 37 [c4] = ys[4]? := by simpa [cells37] using hall 4 _ rfl
  rw [e0] at h0
  rw [e1] at h1
  rw [e2] at h2
  rw [e3] at h3
  rw [e4] at h4
  obtain ⟨n0, f0, _, _⟩ := DataW.trod_int Try.underlying3 h0
  obtain ⟨n1, f1, _, _⟩ := DataW.trod_int Try.underlying3 h1
  obtain ⟨n2, f2, _, _⟩ := DataW.trod_int Try.underlying3 h2
  obtain ⟨n3, f3, _, _⟩ := DataW.trod_int Try.underlying3 h3
  obtain ⟨rv, xs, f4, hrd, hxl⟩ := open_srcs h4
  simp only [List.cons.injEq, and_true] at f0 f1 f2 f3 f4
  subst f0 f1 f2 f3 f4
  exact ⟨⟨n0, n1, n2, n3, xs⟩, c4, rfl, hrd, hxl⟩
theorem open_links {fuel : Nat} {cs : List Value} {x : DataW H × List MemPlace} (hx : DataW.trod enc Try.prog w base spare held fuel 28 cs = some x) : ∃ v ls, cs = [v] ∧ RdL (· < w.heap.size) v ls w ∧ ls.length ≤ maxLen := by
  obtain ⟨v, ls, a, cap, hc, hv, hl, hall⟩ := open_gen sl28 (by decide) (fun (l : Lk) c => ∃ rv, c = lkC l rv ∧ RdS (· < w.heap.size) rv l.regs w) (fun fuel cs x hx hl => by
    obtain ⟨l, rv, h1, h2, _⟩ := open_link hx hl
    exact ⟨l, rv, h1, h2⟩) hx
  refine ⟨v, ls, hc, ⟨a, cap, hv, fun i y hi => ?_⟩, hl⟩
  obtain ⟨b, off, c, ha, hb, _, hat, rv, rfl, hr⟩ := hall i y hi
  exact ⟨b, off, rv, ha, hb, hat, hr⟩
/-- A slice of links, as an argument. -/
theorem open_lks {r : Reach} {b0 : Nat} {v : Value} {dt : DataW H} {ps : List MemPlace} (hval : Value.okWide Try.prog w r b0 28 v) (hd : DataW.Trod enc Try.prog w base spare held 28 v dt ps) : ∃ ls, RdL (· < w.heap.size) v ls w ∧ ls.length ≤ maxLen := by
  obtain ⟨a, len, cap, rfl⟩ := okWide_slice Try.underlying28 hval
  obtain ⟨fuel, hx⟩ := hd
  obtain ⟨v, ls, hc, hr, hl⟩ := open_links hx
  simp only [Value.cells, List.cons.injEq, and_true] at hc
  subst hc
  exact ⟨ls, hr, hl⟩
end

end Go.Proofs.Ytfojeengapebmaa
