/-
  Layer 15: acts that came in, opened, where no slice is longer than may come in. No condition beyond.
-/
import Derived.Test.YtddhdoncjfgfnaaAct
import Derived.Test.YtddhdoncjfgfnaaOpenW
namespace Go.Proofs.Ytddhdoncjfgfnaa
open Go.Eng Go.ChangeShapes Go.WideShapes Go.ChangeAt Go.RowKit Go.Deep

section
variable {H : Type} {enc : TypeId × Value → H} {w : World} {base : Nat} {spare : Nat → Bool} {held : Bool}
theorem cellsW33 : Try.prog.cellsOf 33 = 17 := by kernel_rfl
set_option maxRecDepth 20000 in
theorem open_actW {fuel : Nat} {cs : List Value} {x : DataW H × List MemPlace} (hx : DataW.trod enc Try.prog w base spare held fuel 50 cs = some x) (hw : Wt 50 x.1) (hl : cs.length = 21) : ∃ a : AcT, cs = actC a ∧ RdT (· < w.heap.size) a.t w ∧ a.t.small := by
  have hd : (cs.drop 18).length = 3 := by rw [List.length_drop, hl]
  obtain ⟨c1, c2, c3, hcs⟩ : ∃ c1 c2 c3, cs.drop 18 = [c1, c2, c3] := by
    match hc : cs.drop 18, hd with
    | [c1, c2, c3], _ => exact ⟨c1, c2, c3, rfl⟩
  have hdk : ∀ k, cs.drop (18 + k) = [c1, c2, c3].drop k := fun k => by rw [← hcs, List.drop_drop]
  obtain ⟨c0, hc0⟩ : ∃ c0, cs.take 1 = [c0] := by
    match cs, hl with
    | c :: _, _ => exact ⟨c, rfl⟩
  obtain ⟨ys, m, _, rfl, _, hys, hall⟩ := DataW.trod_struct Try.underlying50 hx
  have hys : ys.length = 5 := hys
  obtain ⟨y0, y1, y2, y3, y4, rfl⟩ : ∃ y0 y1 y2 y3 y4, ys = [y0, y1, y2, y3, y4] := by
    match ys, hys with
    | [y0, y1, y2, y3, y4], _ => exact ⟨y0, y1, y2, y3, y4, rfl⟩
  have h0 : DataW.trod enc Try.prog w base spare held m 3 [c0] = some y0 := by
    have h : DataW.trod enc Try.prog w base spare held m 3 ((cs.drop 0).take (Try.prog.cellsOf 3)) = some y0 := hall 0 _ rfl
    rw [cells3, List.drop_zero, hc0] at h
    exact h
  have h1 : DataW.trod enc Try.prog w base spare held m 33 ((cs.drop 1).take 17) = some y1 := by
    have h : DataW.trod enc Try.prog w base spare held m 33 ((cs.drop 1).take (Try.prog.cellsOf 33)) = some y1 := hall 1 _ rfl
    rwa [cellsW33] at h
  have h2 : DataW.trod enc Try.prog w base spare held m 3 [c1] = some y2 := by
    have h : DataW.trod enc Try.prog w base spare held m 3 ((cs.drop 18).take (Try.prog.cellsOf 3)) = some y2 := hall 2 _ rfl
    rw [cells3, show cs.drop 18 = [c1, c2, c3].drop 0 from hdk 0] at h
    exact h
  have h3 : DataW.trod enc Try.prog w base spare held m 3 [c2] = some y3 := by
    have h : DataW.trod enc Try.prog w base spare held m 3 ((cs.drop 19).take (Try.prog.cellsOf 3)) = some y3 := hall 3 _ rfl
    rw [cells3, show cs.drop 19 = [c1, c2, c3].drop 1 from hdk 1] at h
    exact h
  have h4 : DataW.trod enc Try.prog w base spare held m 3 [c3] = some y4 := by
    have h : DataW.trod enc Try.prog w base spare held m 3 ((cs.drop 20).take (Try.prog.cellsOf 3)) = some y4 := hall 4 _ rfl
    rw [cells3, show cs.drop 20 = [c1, c2, c3].drop 2 from hdk 2] at h
    exact h
  obtain ⟨n0, f0, _, _⟩ := DataW.trod_int Try.underlying3 h0
  obtain ⟨t, f1, ht, hb⟩ := open_traceW h1 (hw.part Try.underlying50 (j := 1) rfl rfl) (by rw [List.length_take, List.length_drop, hl]; rfl)
  obtain ⟨n2, f2, _, _⟩ := DataW.trod_int Try.underlying3 h2
  obtain ⟨n3, f3, _, _⟩ := DataW.trod_int Try.underlying3 h3
  obtain ⟨n4, f4, _, _⟩ := DataW.trod_int Try.underlying3 h4
  simp only [List.cons.injEq, and_true] at f0 f2 f3 f4
  subst f0 f2 f3 f4
  refine ⟨⟨n0, t, n2, n3, n4⟩, ?_, ht, hb⟩
  · have e1 := List.take_append_drop 1 cs
    have e2 := List.take_append_drop 17 (cs.drop 1)
    rw [List.drop_drop, hcs, f1] at e2
    rw [hc0, ← e2] at e1
    rw [← e1]
    rfl
/-- Acts, as an argument. -/
theorem open_actsW {r : Reach} {b0 : Nat} {v : Value} {dt : DataW H} {ps : List MemPlace} (hval : Value.okWide Try.prog w r b0 48 v) (hd : DataW.Trod enc Try.prog w base spare held 48 v dt ps) (hw : Wt 48 dt) : ∃ xs : List AcT, (RdG 21 actC (· < w.heap.size) v xs w ∧ ∀ x ∈ xs, RdT (· < w.heap.size) x.t w) ∧ (∀ x ∈ xs, x.t.small) ∧ xs.length ≤ 567489872384 := by
  obtain ⟨a, len, cap, rfl⟩ := okWide_slice Try.underlying48 hval
  obtain ⟨fuel, hx⟩ := hd
  obtain ⟨v, xs, a', cap', hc, hv, hl, hall⟩ := open_genW sl48 (by decide) (fun (x : AcT) c => c = actC x ∧ RdT (· < w.heap.size) x.t w ∧ x.t.small) (fun fuel cs x hx hl hw => by
    obtain ⟨t, h1, h2, h3⟩ := open_actW hx hw hl
    exact ⟨t, h1, h2, h3⟩) hx hw
  simp only [Value.cells, List.cons.injEq, and_true] at hc
  subst hc
  have hall2 : ∀ x ∈ xs, RdT (· < w.heap.size) x.t w ∧ x.t.small := fun x hx => by
    obtain ⟨i, hi⟩ := List.mem_iff_getElem?.1 hx
    obtain ⟨_, _, _, _, _, _, _, _, h⟩ := hall i x hi
    exact h
  refine ⟨xs, ⟨⟨a', cap', hv, fun i y hi => ?_⟩, fun x hx => (hall2 x hx).1⟩, fun x hx => (hall2 x hx).2, by omega⟩
  obtain ⟨b, off, c, ha, hb, _, hat, rfl, _⟩ := hall i y hi
  exact ⟨b, off, ha, hb, hat⟩
end

end Go.Proofs.Ytddhdoncjfgfnaa
