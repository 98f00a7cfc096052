/-
  Layer 17: links, virtual things and bytes that came in, opened, with how much they hold and how large their numbers are. No condition.
-/
import Derived.Test.YtfojeengapebmaaBulk
import Derived.Test.YtfojeengapebmaaShape
namespace Go.Proofs.Ytfojeengapebmaa
open Go.Eng Go.ChangeShapes Go.WideShapes Go.ChangeAt Go.RowKit Go.Deep

section
variable {H : Type} {enc : TypeId × Value → H} {w : World} {base : Nat} {spare : Nat → Bool} {held : Bool}
theorem cells5 : Try.prog.cellsOf 5 = 1 := by kernel_rfl
theorem all_of {α : Type} {xs : List α} {p : α → Prop} (h : ∀ (i : Nat) y, xs[i]? = some y → p y) : ∀ y ∈ xs, p y := by
  intro y hy
  obtain ⟨i, hi⟩ := List.mem_iff_getElem?.1 hy
  exact h i y hi
theorem open_srcsF {fuel : Nat} {cs : List Value} {x : DataW H × List MemPlace} (hx : DataW.trod enc Try.prog w base spare held fuel 37 cs = some x) : ∃ v xs, cs = [v] ∧ RdS (· < w.heap.size) v xs w ∧ xs.length + 1 ≤ Rows.uptoBulk x.1 ∧ ∀ y ∈ xs, okF y := by
  obtain ⟨v, xs, a, cap, hc, hv, hl, hall⟩ := open_genD sl37 (by decide) (fun (y : Sc) c => c = ic y.toList ∧ okF y) (fun _ => 1) (fun fuel cs x hx _ => by
    obtain ⟨ys, hyl, hyc, hin⟩ := flat_trod 5 69 4 flat69 cells69 hx
    obtain ⟨a, b, c, d, rfl⟩ : ∃ a b c d, ys = [a, b, c, d] := by
      match ys, hyl with
      | [a, b, c, d], _ => exact ⟨a, b, c, d, rfl⟩
    exact ⟨sc a b c d, ⟨hyc, hin a (by simp), hin b (by simp), hin c (by simp), hin d (by simp)⟩, bulk_pos _⟩) hx
  refine ⟨v, xs, hc, ⟨a, cap, hv, fun i y hi => ?_⟩, by rw [sum_one] at hl; exact hl, all_of fun i y hi => ?_⟩
  · obtain ⟨b, off, c, ha, hb, _, hat, rfl, _⟩ := hall i y hi
    exact ⟨b, off, ha, hb, hat⟩
  · obtain ⟨_, _, _, _, _, _, _, _, h⟩ := hall i y hi
    exact h
theorem open_linkF {fuel : Nat} {cs : List Value} {x : DataW H × List MemPlace} (hx : DataW.trod enc Try.prog w base spare held fuel 39 cs = some x) (hl : cs.length = 5) : ∃ l rv, cs = lkC l rv ∧ RdS (· < w.heap.size) rv l.regs w ∧ l.regs.length + 1 ≤ Rows.uptoBulk x.1 ∧ okL l := by
  obtain ⟨c0, c1, c2, c3, c4, rfl⟩ : ∃ c0 c1 c2 c3 c4, cs = [c0, c1, c2, c3, c4] := by
    match cs, hl with
    | [c0, c1, c2, c3, c4], _ => exact ⟨c0, c1, c2, c3, c4, rfl⟩
  obtain ⟨ys, m, _, rfl, _, hys, hall⟩ := DataW.trod_struct Try.underlying39 hx
  have hys : ys.length = 5 := hys
  have get : ∀ i, i < 5 → ∃ y, ys[i]? = some y := fun i hi => ⟨_, List.getElem?_eq_getElem (by omega)⟩
  obtain ⟨y0, e0⟩ := get 0 (by decide)
  obtain ⟨y1, e1⟩ := get 1 (by decide)
  obtain ⟨y2, e2⟩ := get 2 (by decide)
  obtain ⟨y3, e3⟩ := get 3 (by decide)
  obtain ⟨y4, e4⟩ := get 4 (by decide)
  have h0 : DataW.trod enc Try.prog w base spare held m 3 [c0] = ys[0]? := by simpa [cells3] using hall 0 _ rfl
  have h1 : DataW.trod enc Try.prog w base spare held m 3 [c1] = ys[1]? := by simpa [cells3] using hall 1 _ rfl
  have h2 : DataW.trod enc Try.prog w base spare held m 3 [c2] = ys[2]? := by simpa [cells3] using hall 2 _ rfl
  have h3 : DataW.trod enc Try.prog w base spare held m 3 [c3] = ys[3]? := by simpa [cells3] using hall 3 _ rfl
  have h4 : DataW.trod enc Try.prog w base spare held m 37 [c4] = ys[4]? := by simpa [cells37] using hall 4 _ rfl
  rw [e0] at h0
  rw [e1] at h1
  rw [e2] at h2
  rw [e3] at h3
  rw [e4] at h4
  obtain ⟨n0, f0, _, w0⟩ := DataW.trod_int Try.underlying3 h0
  obtain ⟨n1, f1, _, w1⟩ := DataW.trod_int Try.underlying3 h1
  obtain ⟨n2, f2, _, w2⟩ := DataW.trod_int Try.underlying3 h2
  obtain ⟨n3, f3, _, w3⟩ := DataW.trod_int Try.underlying3 h3
  obtain ⟨rv, xs, f4, hrd, hxl, hok⟩ := open_srcsF h4
  simp only [List.cons.injEq, and_true] at f0 f1 f2 f3 f4
  subst f0 f1 f2 f3 f4
  refine ⟨⟨n0, n1, n2, n3, xs⟩, c4, rfl, hrd, ?_, bounds_i64 w0, bounds_i64 w1, bounds_i64 w2, bounds_i64 w3, hok⟩
  have hmem : Rows.uptoBulk y4.1 ≤ ((ys.map (·.1)).map Rows.uptoBulk).sum := by
    have : Rows.uptoBulk y4.1 ∈ (ys.map (·.1)).map Rows.uptoBulk := List.mem_map.2 ⟨_, List.mem_map.2 ⟨_, List.mem_of_getElem? e4, rfl⟩, rfl⟩
    exact le_sum this
  simp only [Rows.uptoBulk, bulk_all]
  omega
theorem open_virtF {fuel : Nat} {cs : List Value} {x : DataW H × List MemPlace} (hx : DataW.trod enc Try.prog w base spare held fuel 76 cs = some x) (hl : cs.length = 2) : ∃ l rv, cs = vtC l rv ∧ RdS (· < w.heap.size) rv l.cells w ∧ l.cells.length + 1 ≤ Rows.uptoBulk x.1 ∧ okV l := by
  obtain ⟨c0, c4, rfl⟩ : ∃ c0 c4, cs = [c0, c4] := by
    match cs, hl with
    | [c0, c4], _ => exact ⟨c0, c4, rfl⟩
  obtain ⟨ys, m, _, rfl, _, hys, hall⟩ := DataW.trod_struct Try.underlying76 hx
  have hys : ys.length = 2 := hys
  have get : ∀ i, i < 2 → ∃ y, ys[i]? = some y := fun i hi => ⟨_, List.getElem?_eq_getElem (by omega)⟩
  obtain ⟨y0, e0⟩ := get 0 (by decide)
  obtain ⟨y4, e4⟩ := get 1 (by decide)
  have h0 : DataW.trod enc Try.prog w base spare held m 3 [c0] = ys[0]? := by simpa [cells3] using hall 0 _ rfl
  have h4 : DataW.trod enc Try.prog w base spare held m 37 [c4] = ys[1]? := by simpa [cells37] using hall 1 _ rfl
  rw [e0] at h0
  rw [e4] at h4
  obtain ⟨n0, f0, _, w0⟩ := DataW.trod_int Try.underlying3 h0
  obtain ⟨rv, xs, f4, hrd, hxl, hok⟩ := open_srcsF h4
  simp only [List.cons.injEq, and_true] at f0 f4
  subst f0 f4
  refine ⟨⟨n0, xs⟩, c4, rfl, hrd, ?_, bounds_i64 w0, hok⟩
  have hmem : Rows.uptoBulk y4.1 ≤ ((ys.map (·.1)).map Rows.uptoBulk).sum := by
    have : Rows.uptoBulk y4.1 ∈ (ys.map (·.1)).map Rows.uptoBulk := List.mem_map.2 ⟨_, List.mem_map.2 ⟨_, List.mem_of_getElem? e4, rfl⟩, rfl⟩
    exact le_sum this
  simp only [Rows.uptoBulk, bulk_all]
  omega
theorem sum_twoV (ls : List Vt) : (ls.map fun l => l.cells.length + 1).sum = ls.length + cln ls := by
  induction ls with
  | nil => rfl
  | cons x l ih => simp only [List.map_cons, List.sum_cons, List.length_cons, cln] at ih ⊢; omega
/-- Links, as an argument. -/
theorem open_lksF {r : Reach} {b0 : Nat} {v : Value} {dt : DataW H} {ps : List MemPlace} (hval : Value.okWide Try.prog w r b0 28 v) (hd : DataW.Trod enc Try.prog w base spare held 28 v dt ps) : ∃ ls, RdL (· < w.heap.size) v ls w ∧ ls.length + rgn ls + 1 ≤ Rows.uptoBulk dt ∧ ∀ x ∈ ls, okL x := by
  obtain ⟨a, len, cap, rfl⟩ := okWide_slice Try.underlying28 hval
  obtain ⟨fuel, hx⟩ := hd
  obtain ⟨v, ls, a', cap', hc, hv, hl, hall⟩ := open_genD sl28 (by decide) (fun (l : Lk) c => ∃ rv, c = lkC l rv ∧ RdS (· < w.heap.size) rv l.regs w ∧ okL l) (fun l => l.regs.length + 1) (fun fuel cs x hx hl => by
    obtain ⟨l, rv, h1, h2, h3, h4⟩ := open_linkF hx hl
    exact ⟨l, ⟨rv, h1, h2, h4⟩, h3⟩) hx
  simp only [Value.cells, List.cons.injEq, and_true] at hc
  subst hc
  refine ⟨ls, ⟨a', cap', hv, fun i y hi => ?_⟩, by rw [sum_two] at hl; exact hl, all_of fun i y hi => ?_⟩
  · obtain ⟨b, off, c, ha, hb, _, hat, rv, rfl, hr, _⟩ := hall i y hi
    exact ⟨b, off, rv, ha, hb, hat, hr⟩
  · obtain ⟨_, _, _, _, _, _, _, _, _, _, h⟩ := hall i y hi
    exact h
/-- Virtual things, as an argument. -/
theorem open_vtsF {r : Reach} {b0 : Nat} {v : Value} {dt : DataW H} {ps : List MemPlace} (hval : Value.okWide Try.prog w r b0 41 v) (hd : DataW.Trod enc Try.prog w base spare held 41 v dt ps) : ∃ vs, RdV (· < w.heap.size) v vs w ∧ vs.length + cln vs + 1 ≤ Rows.uptoBulk dt ∧ ∀ x ∈ vs, okV x := by
  obtain ⟨a, len, cap, rfl⟩ := okWide_slice Try.underlying41 hval
  obtain ⟨fuel, hx⟩ := hd
  obtain ⟨v, ls, a', cap', hc, hv, hl, hall⟩ := open_genD sl41 (by decide) (fun (l : Vt) c => ∃ rv, c = vtC l rv ∧ RdS (· < w.heap.size) rv l.cells w ∧ okV l) (fun l => l.cells.length + 1) (fun fuel cs x hx hl => by
    obtain ⟨l, rv, h1, h2, h3, h4⟩ := open_virtF hx hl
    exact ⟨l, ⟨rv, h1, h2, h4⟩, h3⟩) hx
  simp only [Value.cells, List.cons.injEq, and_true] at hc
  subst hc
  refine ⟨ls, ⟨a', cap', hv, fun i y hi => ?_⟩, by rw [sum_twoV] at hl; exact hl, all_of fun i y hi => ?_⟩
  · obtain ⟨b, off, c, ha, hb, _, hat, rv, rfl, hr, _⟩ := hall i y hi
    exact ⟨b, off, rv, ha, hb, hat, hr⟩
  · obtain ⟨_, _, _, _, _, _, _, _, _, _, h⟩ := hall i y hi
    exact h
/-- Bytes, as an argument. -/
theorem open_bytes {r : Reach} {b0 : Nat} {v : Value} {dt : DataW H} {ps : List MemPlace} (hval : Value.okWide Try.prog w r b0 42 v) (hd : DataW.Trod enc Try.prog w base spare held 42 v dt ps) : ∃ l, RB (· < w.heap.size) v l w ∧ isB l := by
  obtain ⟨a, len, cap, rfl⟩ := okWide_slice Try.underlying42 hval
  obtain ⟨fuel, hx⟩ := hd
  rcases open_slice1 Try.underlying42 cells5 hx with ⟨hc, _⟩ | ⟨a', len', cap', m, n, V, D, Pl, hc, _, hle, hm, hmm, _, hall⟩
  · simp only [Value.cells, List.cons.injEq, and_true] at hc
    exact ⟨[], ⟨none, 0, hc, Nat.zero_le _, by simp⟩, isB.nil⟩
  · simp only [Value.cells, List.cons.injEq, and_true] at hc
    have hlm : len' ≤ m := by rw [hmm]; split <;> omega
    obtain ⟨xs, hxl, hxs⟩ := list_of (R := fun i (y : Int) => w.cell? (a'.add i) = some (.int .u8 y) ∧ 0 ≤ y ∧ y < 256) len' fun i hi => by
      obtain ⟨h1, h2⟩ := hall i (by omega)
      obtain ⟨k, hk, _, hw⟩ := DataW.trod_int Try.underlying5 h2
      have hb := bounds_u8 hw
      simp only [List.cons.injEq, and_true] at hk
      rw [hk] at h1
      exact ⟨k, h1, by omega, by omega⟩
    refine ⟨xs, ⟨some a', cap', by rw [hxl]; exact hc, by omega, fun i y hi => ?_⟩, all_of fun i y hi => (hxs i y hi).2⟩
    have h1 := (hxs i y hi).1
    have hsp : a'.spot = none := by
      have h0 := (hxs 0 _ (List.getElem?_eq_getElem (by have := (List.getElem?_eq_some_iff.1 hi).1; omega))).1
      have := World.cell?_spot h0
      simpa [Addr.add] using this
    obtain ⟨b, off, sp⟩ := a'
    simp only at hsp
    subst hsp
    rw [add_eq] at h1
    exact ⟨b, off, rfl, cells_lt h1, h1⟩
end

end Go.Proofs.Ytfojeengapebmaa
