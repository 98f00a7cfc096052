/-
  Layer 15: traces that came in, opened, with how much they hold. No condition.
-/
import Derived.Test.YtddhdoncjfgfnaaData
namespace Go.Proofs.Ytddhdoncjfgfnaa
open Go.Eng Go.ChangeShapes Go.WideShapes Go.ChangeAt Go.RowKit Go.Deep

section
variable {H : Type} {enc : TypeId × Value → H} {P : Program} {w : World} {base : Nat} {spare : Nat → Bool} {held : Bool}
theorem bulk_all (l : List (DataW H)) : Rows.uptoBulkAll l = (l.map Rows.uptoBulk).sum := by
  induction l with
  | nil => simp [Rows.uptoBulkAll]
  | cons d r ih => simp [Rows.uptoBulkAll, ih]
theorem bulk_pos (d : DataW H) : 1 ≤ Rows.uptoBulk d := by
  cases d with
  | lit x => cases x <;> simp [Rows.uptoBulk]
  | _ => simp [Rows.uptoBulk]
theorem sum_one {α : Type} (xs : List α) : (xs.map fun _ => 1).sum = xs.length := by
  induction xs with
  | nil => rfl
  | cons x l ih => simp only [List.map_cons, List.sum_cons, List.length_cons, ih]; omega
theorem le_sum {n : Nat} {l : List Nat} (h : n ∈ l) : n ≤ l.sum := by
  induction l with
  | nil => cases h
  | cons x l ih =>
    simp only [List.sum_cons]
    rcases List.mem_cons.1 h with rfl | h
    · omega
    · have := ih h; omega
theorem sum_le {α : Type} {μ : α → Nat} {g : Nat → Nat} : ∀ (xs : List α) (k : Nat), (∀ i y, xs[i]? = some y → μ y ≤ g (k + i)) → (xs.map μ).sum ≤ ((List.range' k xs.length).map g).sum
  | [], _, _ => by simp
  | x :: xs, k, h => by
    have h0 := h 0 x rfl
    have ih := sum_le xs (k + 1) fun i y hi => by
      have := h (i + 1) y (by simpa using hi)
      rw [show k + 1 + i = k + (i + 1) from by omega]
      exact this
    simp only [List.map_cons, List.sum_cons, List.length_cons, List.range'_succ]
    simp only [Nat.add_zero] at h0
    omega
theorem open_genD {T E s by_ : Nat} (hT : slOf P T = some (E, s, by_)) (hs0 : 0 < s) {α : Type} (R : α → List Value → Prop) (μ : α → Nat) (hR : ∀ fuel cs x, DataW.trod enc P w base spare held fuel E cs = some x → cs.length = s → ∃ y, R y cs ∧ μ y ≤ Rows.uptoBulk x.1)
    {fuel : Nat} {cs : List Value} {x : DataW H × List MemPlace} (hx : DataW.trod enc P w base spare held fuel T cs = some x) :
    ∃ (v : Value) (xs : List α) (a : Option Addr) (cap : Nat), cs = [v] ∧ v = .slice a xs.length cap ∧ (xs.map μ).sum + 1 ≤ Rows.uptoBulk x.1 ∧ ∀ i y, xs[i]? = some y → ∃ b off c, a = some ⟨b, off, none⟩ ∧ b < w.heap.size ∧ c.length = s ∧ At w b (off + i * s) c ∧ R y c := by
  obtain ⟨inf, hu, hinf, rfl, rfl⟩ := slOf_parts hT
  have hcE : P.cellsOf E = inf.size := by simp [Program.cellsOf, hinf]
  rcases open_slice hu hx with ⟨rfl, rfl⟩ | ⟨a, len, cap, m, n, D, Pl, rfl, _, hle, hm, hmm, rfl, hall⟩
  · exact ⟨_, [], none, 0, rfl, rfl, bulk_pos _, by simp⟩
  · have hlm : len ≤ m := by rw [hmm]; split <;> omega
    obtain ⟨xs, hxl, hxs⟩ := list_of (R := fun i (y : α) => ∃ c : List Value, c.length = inf.size ∧ (∀ j (u : Value), c[j]? = some u → w.cell? (a.add (i * inf.size + j)) = some u) ∧ R y c ∧ μ y ≤ Rows.uptoBulk (D i)) len fun i hi => by
      obtain ⟨c, hcs, hd⟩ := hall i (by omega)
      obtain ⟨_, hcl, hcc⟩ := World.cells?_some hcs
      obtain ⟨y, hy, hμ⟩ := hR _ _ _ hd (by rw [hcl, hcE])
      refine ⟨y, c, by rw [hcl, hcE], fun j u hj => ?_, hy, hμ⟩
      have hjl : j < c.length := (List.getElem?_eq_some_iff.1 hj).1
      have := hcc j (by omega)
      rw [hcE] at this
      rw [Addr.add_add] at this
      rw [this, hj]
    refine ⟨_, xs, some a, cap, rfl, by rw [hxl], ?_, fun i y hi => ?_⟩
    · have h1 := sum_le (μ := μ) (g := fun i => Rows.uptoBulk (D i)) xs 0 fun i y hi => by
        obtain ⟨_, _, _, _, h⟩ := hxs i y hi
        rw [Nat.zero_add]
        exact h
      rw [hxl, ← List.range_eq_range'] at h1
      simp only [Rows.uptoBulk, bulk_all, List.map_map]
      simp only [Function.comp_def]
      omega
    have hi0 : 0 < xs.length := by have := (List.getElem?_eq_some_iff.1 hi).1; omega
    obtain ⟨c0, hl0, h0, _⟩ := hxs 0 _ (List.getElem?_eq_getElem hi0)
    have h2 := h0 0 _ (List.getElem?_eq_getElem (by omega))
    have hsp : a.spot = none := by
      have := World.cell?_spot h2
      simpa [Addr.add] using this
    obtain ⟨c, hcl, hcc, hy, _⟩ := hxs i y hi
    obtain ⟨b, off, sp⟩ := a
    simp only at hsp
    subst hsp
    refine ⟨b, off, c, rfl, by rw [add_eq] at h2; exact cells_lt h2, hcl, fun j u hj => ?_, hy⟩
    have := hcc j u hj
    rw [add_eq] at this
    rw [Nat.add_assoc]; exact this
end
theorem sum_len {α : Type} (μ : α → Nat) (xs : List α) : xs.length ≤ (xs.map fun x => μ x + 1).sum := by
  induction xs with
  | nil => simp
  | cons x l ih => simp only [List.map_cons, List.sum_cons, List.length_cons]; omega
theorem sum_mem {α : Type} (μ : α → Nat) {xs : List α} {x : α} (h : x ∈ xs) : μ x ≤ (xs.map μ).sum := le_sum (List.mem_map.2 ⟨x, h, rfl⟩)
def LT.siz (x : LT) : Nat := x.ins.length + (x.ops.map fun p => p.1.args.length + 1).sum + (x.links.map fun p => p.1.regs.length + 1).sum + (x.virts.map fun p => p.1.cells.length + 1).sum + x.back.length
theorem small_siz {x : LT} (h : x.siz ≤ 2000000) : x.small := by
  unfold LT.siz at h
  have h1 := sum_len (fun p : OpD × Value => p.1.args.length) x.ops
  have h2 := sum_len (fun p : Lk × Value => p.1.regs.length) x.links
  have h3 := sum_len (fun p : Vt × Value => p.1.cells.length) x.virts
  refine ⟨by omega, by omega, by omega, by omega, by omega, fun p hp => ?_, fun p hp => ?_, fun p hp => ?_⟩
  · have := sum_mem (fun p : OpD × Value => p.1.args.length + 1) hp; omega
  · have := sum_mem (fun p : Lk × Value => p.1.regs.length + 1) hp; omega
  · have := sum_mem (fun p : Vt × Value => p.1.cells.length + 1) hp; omega

section
variable {H : Type} {enc : TypeId × Value → H} {w : World} {base : Nat} {spare : Nat → Bool} {held : Bool}
theorem cells93 : Try.prog.cellsOf 93 = 4 := by kernel_rfl
theorem cells26 : Try.prog.cellsOf 26 = 10 := by kernel_rfl
theorem cells2 : Try.prog.cellsOf 2 = 1 := by kernel_rfl
theorem cells3 : Try.prog.cellsOf 3 = 1 := by kernel_rfl
theorem cells27 : Try.prog.cellsOf 27 = 1 := by kernel_rfl
theorem cells28 : Try.prog.cellsOf 28 = 1 := by kernel_rfl
theorem cells29 : Try.prog.cellsOf 29 = 1 := by kernel_rfl
theorem cells30 : Try.prog.cellsOf 30 = 1 := by kernel_rfl
theorem cells31 : Try.prog.cellsOf 31 = 1 := by kernel_rfl
theorem flat3 : flat Try.prog 5 3 1 = true := by kernel_rfl
theorem open_ints {fuel : Nat} {cs : List Value} {x : DataW H × List MemPlace} (hx : DataW.trod enc Try.prog w base spare held fuel 27 cs = some x) : ∃ v xs, cs = [v] ∧ RdG 1 iF (· < w.heap.size) v xs w ∧ xs.length + 1 ≤ Rows.uptoBulk x.1 := by
  obtain ⟨v, xs, a, cap, hc, hv, hl, hall⟩ := open_genD sl27 (by decide) (fun (y : Int) c => c = iF y) (fun _ => 1) (fun fuel cs x hx _ => by
    obtain ⟨k, rfl, _, _⟩ := DataW.trod_int Try.underlying3 hx
    exact ⟨k, rfl, bulk_pos _⟩) hx
  refine ⟨v, xs, hc, ⟨a, cap, hv, fun i y hi => ?_⟩, by rw [sum_one] at hl; exact hl⟩
  obtain ⟨b, off, c, ha, hb, _, hat, rfl⟩ := hall i y hi
  exact ⟨b, off, ha, hb, hat⟩
theorem open_srcs {fuel : Nat} {cs : List Value} {x : DataW H × List MemPlace} (hx : DataW.trod enc Try.prog w base spare held fuel 31 cs = some x) : ∃ v xs, cs = [v] ∧ RdG 4 scF (· < w.heap.size) v xs w ∧ xs.length + 1 ≤ Rows.uptoBulk x.1 := by
  obtain ⟨v, xs, a, cap, hc, hv, hl, hall⟩ := open_genD sl31 (by decide) (fun (y : Sc) c => c = ic y.toList) (fun _ => 1) (fun fuel cs x hx _ => by
    obtain ⟨ys, hyl, hyc, _⟩ := flat_trod 5 93 4 flat93 cells93 hx
    exact ⟨⟨ys.toArray, by simpa using hyl⟩, by simpa [Vector.toList] using hyc, bulk_pos _⟩) hx
  refine ⟨v, xs, hc, ⟨a, cap, hv, fun i y hi => ?_⟩, by rw [sum_one] at hl; exact hl⟩
  obtain ⟨b, off, c, ha, hb, _, hat, rfl⟩ := hall i y hi
  exact ⟨b, off, ha, hb, hat⟩
theorem open_op {fuel : Nat} {cs : List Value} {x : DataW H × List MemPlace} (hx : DataW.trod enc Try.prog w base spare held fuel 39 cs = some x) (hl : cs.length = 5) : ∃ p : OpD × Value, cs = opC p ∧ RdG 4 scF (· < w.heap.size) p.2 p.1.args w ∧ p.1.args.length + 1 ≤ Rows.uptoBulk x.1 := by
  obtain ⟨c0, c1, c2, c3, c4, rfl⟩ : ∃ c0 c1 c2 c3 c4, cs = [c0, c1, c2, c3, c4] := by
    match cs, hl with
    | [c0, c1, c2, c3, c4], _ => exact ⟨c0, c1, c2, c3, c4, rfl⟩
  obtain ⟨ys, m, _, rfl, _, hys, hall⟩ := DataW.trod_struct Try.underlying39 hx
  have hys : ys.length = 5 := hys
  obtain ⟨y0, y1, y2, y3, y4, rfl⟩ : ∃ y0 y1 y2 y3 y4, ys = [y0, y1, y2, y3, y4] := by
    match ys, hys with
    | [y0, y1, y2, y3, y4], _ => exact ⟨y0, y1, y2, y3, y4, rfl⟩
  have h0 : DataW.trod enc Try.prog w base spare held m 3 [c0] = some y0 := by simpa [cells3] using hall 0 _ rfl
  have h1 : DataW.trod enc Try.prog w base spare held m 31 [c1] = some y1 := by simpa [cells31] using hall 1 _ rfl
  have h2 : DataW.trod enc Try.prog w base spare held m 2 [c2] = some y2 := by simpa [cells2] using hall 2 _ rfl
  have h3 : DataW.trod enc Try.prog w base spare held m 3 [c3] = some y3 := by simpa [cells3] using hall 3 _ rfl
  have h4 : DataW.trod enc Try.prog w base spare held m 3 [c4] = some y4 := by simpa [cells3] using hall 4 _ rfl
  obtain ⟨n0, f0, _, _⟩ := DataW.trod_int Try.underlying3 h0
  obtain ⟨rv, xs, f1, hrd, hb⟩ := open_srcs h1
  obtain ⟨n2, f2, _, _⟩ := DataW.trod_int Try.underlying2 h2
  obtain ⟨n3, f3, _, _⟩ := DataW.trod_int Try.underlying3 h3
  obtain ⟨n4, f4, _, _⟩ := DataW.trod_int Try.underlying3 h4
  simp only [List.cons.injEq, and_true] at f0 f1 f2 f3 f4
  subst f0 f1 f2 f3 f4
  refine ⟨(⟨n0, xs, n2, n3, n4⟩, c1), rfl, hrd, ?_⟩
  have : Rows.uptoBulk y1.1 ≤ Rows.uptoBulk (DataW.agg (([y0, y1, y2, y3, y4].map (·.1)))) := by
    simp only [List.map_cons, List.map_nil, Rows.uptoBulk, Rows.uptoBulkAll]
    omega
  simp only at hb ⊢
  omega
theorem open_link {fuel : Nat} {cs : List Value} {x : DataW H × List MemPlace} (hx : DataW.trod enc Try.prog w base spare held fuel 76 cs = some x) (hl : cs.length = 5) : ∃ p : Lk × Value, cs = lkC p ∧ RdG 4 scF (· < w.heap.size) p.2 p.1.regs w ∧ p.1.regs.length + 1 ≤ Rows.uptoBulk x.1 := by
  obtain ⟨c0, c1, c2, c3, c4, rfl⟩ : ∃ c0 c1 c2 c3 c4, cs = [c0, c1, c2, c3, c4] := by
    match cs, hl with
    | [c0, c1, c2, c3, c4], _ => exact ⟨c0, c1, c2, c3, c4, rfl⟩
  obtain ⟨ys, m, _, rfl, _, hys, hall⟩ := DataW.trod_struct Try.underlying76 hx
  have hys : ys.length = 5 := hys
  obtain ⟨y0, y1, y2, y3, y4, rfl⟩ : ∃ y0 y1 y2 y3 y4, ys = [y0, y1, y2, y3, y4] := by
    match ys, hys with
    | [y0, y1, y2, y3, y4], _ => exact ⟨y0, y1, y2, y3, y4, rfl⟩
  have h0 : DataW.trod enc Try.prog w base spare held m 3 [c0] = some y0 := by simpa [cells3] using hall 0 _ rfl
  have h1 : DataW.trod enc Try.prog w base spare held m 3 [c1] = some y1 := by simpa [cells3] using hall 1 _ rfl
  have h2 : DataW.trod enc Try.prog w base spare held m 3 [c2] = some y2 := by simpa [cells3] using hall 2 _ rfl
  have h3 : DataW.trod enc Try.prog w base spare held m 3 [c3] = some y3 := by simpa [cells3] using hall 3 _ rfl
  have h4 : DataW.trod enc Try.prog w base spare held m 31 [c4] = some y4 := by simpa [cells31] using hall 4 _ rfl
  obtain ⟨n0, f0, _, _⟩ := DataW.trod_int Try.underlying3 h0
  obtain ⟨n1, f1, _, _⟩ := DataW.trod_int Try.underlying3 h1
  obtain ⟨n2, f2, _, _⟩ := DataW.trod_int Try.underlying3 h2
  obtain ⟨n3, f3, _, _⟩ := DataW.trod_int Try.underlying3 h3
  obtain ⟨rv, xs, f4, hrd, hb⟩ := open_srcs h4
  simp only [List.cons.injEq, and_true] at f0 f1 f2 f3 f4
  subst f0 f1 f2 f3 f4
  refine ⟨(⟨n0, n1, n2, n3, xs⟩, c4), rfl, hrd, ?_⟩
  have : Rows.uptoBulk y4.1 ≤ Rows.uptoBulk (DataW.agg (([y0, y1, y2, y3, y4].map (·.1)))) := by
    simp only [List.map_cons, List.map_nil, Rows.uptoBulk, Rows.uptoBulkAll]
    omega
  simp only at hb ⊢
  omega
theorem open_virt {fuel : Nat} {cs : List Value} {x : DataW H × List MemPlace} (hx : DataW.trod enc Try.prog w base spare held fuel 78 cs = some x) (hl : cs.length = 2) : ∃ p : Vt × Value, cs = vtC p ∧ RdG 4 scF (· < w.heap.size) p.2 p.1.cells w ∧ p.1.cells.length + 1 ≤ Rows.uptoBulk x.1 := by
  obtain ⟨c0, c1, rfl⟩ : ∃ c0 c1, cs = [c0, c1] := by
    match cs, hl with
    | [c0, c1], _ => exact ⟨c0, c1, rfl⟩
  obtain ⟨ys, m, _, rfl, _, hys, hall⟩ := DataW.trod_struct Try.underlying78 hx
  have hys : ys.length = 2 := hys
  obtain ⟨y0, y1, rfl⟩ : ∃ y0 y1, ys = [y0, y1] := by
    match ys, hys with
    | [y0, y1], _ => exact ⟨y0, y1, rfl⟩
  have h0 : DataW.trod enc Try.prog w base spare held m 3 [c0] = some y0 := by simpa [cells3] using hall 0 _ rfl
  have h1 : DataW.trod enc Try.prog w base spare held m 31 [c1] = some y1 := by simpa [cells31] using hall 1 _ rfl
  obtain ⟨n0, f0, _, _⟩ := DataW.trod_int Try.underlying3 h0
  obtain ⟨rv, xs, f1, hrd, hb⟩ := open_srcs h1
  simp only [List.cons.injEq, and_true] at f0 f1
  subst f0 f1
  refine ⟨(⟨n0, xs⟩, c1), rfl, hrd, ?_⟩
  have : Rows.uptoBulk y1.1 ≤ Rows.uptoBulk (DataW.agg (([y0, y1].map (·.1)))) := by
    simp only [List.map_cons, List.map_nil, Rows.uptoBulk, Rows.uptoBulkAll]
    omega
  simp only at hb ⊢
  omega
theorem open_ops {fuel : Nat} {cs : List Value} {x : DataW H × List MemPlace} (hx : DataW.trod enc Try.prog w base spare held fuel 28 cs = some x) : ∃ (v : Value) (xs : List (OpD × Value)), cs = [v] ∧ RdG 5 opC (· < w.heap.size) v xs w ∧ (∀ p ∈ xs, RdG 4 scF (· < w.heap.size) p.2 p.1.args w) ∧ (xs.map fun p => p.1.args.length + 1).sum + 1 ≤ Rows.uptoBulk x.1 := by
  obtain ⟨v, xs, a, cap, hc, hv, hl, hall⟩ := open_genD sl28 (by decide) (fun (p : OpD × Value) c => c = opC p ∧ RdG 4 scF (· < w.heap.size) p.2 p.1.args w) (fun p => p.1.args.length + 1) (fun fuel cs x hx hl => by
    obtain ⟨p, h1, h2, h3⟩ := open_op hx hl
    exact ⟨p, ⟨h1, h2⟩, h3⟩) hx
  refine ⟨v, xs, hc, ⟨a, cap, hv, fun i y hi => ?_⟩, fun p hp => ?_, hl⟩
  · obtain ⟨b, off, c, ha, hb, _, hat, rfl, _⟩ := hall i y hi
    exact ⟨b, off, ha, hb, hat⟩
  · obtain ⟨i, hi⟩ := List.mem_iff_getElem?.1 hp
    obtain ⟨_, _, _, _, _, _, _, _, h⟩ := hall i p hi
    exact h
theorem open_links {fuel : Nat} {cs : List Value} {x : DataW H × List MemPlace} (hx : DataW.trod enc Try.prog w base spare held fuel 29 cs = some x) : ∃ (v : Value) (xs : List (Lk × Value)), cs = [v] ∧ RdG 5 lkC (· < w.heap.size) v xs w ∧ (∀ p ∈ xs, RdG 4 scF (· < w.heap.size) p.2 p.1.regs w) ∧ (xs.map fun p => p.1.regs.length + 1).sum + 1 ≤ Rows.uptoBulk x.1 := by
  obtain ⟨v, xs, a, cap, hc, hv, hl, hall⟩ := open_genD sl29 (by decide) (fun (p : Lk × Value) c => c = lkC p ∧ RdG 4 scF (· < w.heap.size) p.2 p.1.regs w) (fun p => p.1.regs.length + 1) (fun fuel cs x hx hl => by
    obtain ⟨p, h1, h2, h3⟩ := open_link hx hl
    exact ⟨p, ⟨h1, h2⟩, h3⟩) hx
  refine ⟨v, xs, hc, ⟨a, cap, hv, fun i y hi => ?_⟩, fun p hp => ?_, hl⟩
  · obtain ⟨b, off, c, ha, hb, _, hat, rfl, _⟩ := hall i y hi
    exact ⟨b, off, ha, hb, hat⟩
  · obtain ⟨i, hi⟩ := List.mem_iff_getElem?.1 hp
    obtain ⟨_, _, _, _, _, _, _, _, h⟩ := hall i p hi
    exact h
theorem open_virts {fuel : Nat} {cs : List Value} {x : DataW H × List MemPlace} (hx : DataW.trod enc Try.prog w base spare held fuel 30 cs = some x) : ∃ (v : Value) (xs : List (Vt × Value)), cs = [v] ∧ RdG 2 vtC (· < w.heap.size) v xs w ∧ (∀ p ∈ xs, RdG 4 scF (· < w.heap.size) p.2 p.1.cells w) ∧ (xs.map fun p => p.1.cells.length + 1).sum + 1 ≤ Rows.uptoBulk x.1 := by
  obtain ⟨v, xs, a, cap, hc, hv, hl, hall⟩ := open_genD sl30 (by decide) (fun (p : Vt × Value) c => c = vtC p ∧ RdG 4 scF (· < w.heap.size) p.2 p.1.cells w) (fun p => p.1.cells.length + 1) (fun fuel cs x hx hl => by
    obtain ⟨p, h1, h2, h3⟩ := open_virt hx hl
    exact ⟨p, ⟨h1, h2⟩, h3⟩) hx
  refine ⟨v, xs, hc, ⟨a, cap, hv, fun i y hi => ?_⟩, fun p hp => ?_, hl⟩
  · obtain ⟨b, off, c, ha, hb, _, hat, rfl, _⟩ := hall i y hi
    exact ⟨b, off, ha, hb, hat⟩
  · obtain ⟨i, hi⟩ := List.mem_iff_getElem?.1 hp
    obtain ⟨_, _, _, _, _, _, _, _, h⟩ := hall i p hi
    exact h
theorem open_trace {fuel : Nat} {cs : List Value} {x : DataW H × List MemPlace} (hx : DataW.trod enc Try.prog w base spare held fuel 33 cs = some x) (hl : cs.length = 17) : ∃ t : LT, cs = trC t ∧ RdT (· < w.heap.size) t w ∧ t.siz + 1 ≤ Rows.uptoBulk x.1 := by
  have hd : (cs.drop 10).length = 7 := by rw [List.length_drop, hl]
  obtain ⟨c0, c1, c2, c3, c4, c5, c6, hcs⟩ : ∃ c0 c1 c2 c3 c4 c5 c6, cs.drop 10 = [c0, c1, c2, c3, c4, c5, c6] := by
    match hc : cs.drop 10, hd with
    | [c0, c1, c2, c3, c4, c5, c6], _ => exact ⟨c0, c1, c2, c3, c4, c5, c6, rfl⟩
  have hdk : ∀ k, cs.drop (10 + k) = [c0, c1, c2, c3, c4, c5, c6].drop k := fun k => by rw [← hcs, List.drop_drop]
  obtain ⟨ys, m, _, rfl, _, hys, hall⟩ := DataW.trod_struct Try.underlying33 hx
  have hys : ys.length = 8 := hys
  obtain ⟨y0, y1, y2, y3, y4, y5, y6, y7, rfl⟩ : ∃ y0 y1 y2 y3 y4 y5 y6 y7, ys = [y0, y1, y2, y3, y4, y5, y6, y7] := by
    match ys, hys with
    | [y0, y1, y2, y3, y4, y5, y6, y7], _ => exact ⟨y0, y1, y2, y3, y4, y5, y6, y7, rfl⟩
  have h0 : DataW.trod enc Try.prog w base spare held m 26 (cs.take 10) = some y0 := by simpa [cells26] using hall 0 _ rfl
  have h1 : DataW.trod enc Try.prog w base spare held m 3 [c0] = some y1 := by
    have h : DataW.trod enc Try.prog w base spare held m 3 ((cs.drop 10).take (Try.prog.cellsOf 3)) = some y1 := hall 1 _ rfl
    rw [cells3, show cs.drop 10 = [c0, c1, c2, c3, c4, c5, c6].drop 0 from hdk 0] at h
    exact h
  have h2 : DataW.trod enc Try.prog w base spare held m 3 [c1] = some y2 := by
    have h : DataW.trod enc Try.prog w base spare held m 3 ((cs.drop 11).take (Try.prog.cellsOf 3)) = some y2 := hall 2 _ rfl
    rw [cells3, show cs.drop 11 = [c0, c1, c2, c3, c4, c5, c6].drop 1 from hdk 1] at h
    exact h
  have h3 : DataW.trod enc Try.prog w base spare held m 27 [c2] = some y3 := by
    have h : DataW.trod enc Try.prog w base spare held m 27 ((cs.drop 12).take (Try.prog.cellsOf 27)) = some y3 := hall 3 _ rfl
    rw [cells27, show cs.drop 12 = [c0, c1, c2, c3, c4, c5, c6].drop 2 from hdk 2] at h
    exact h
  have h4 : DataW.trod enc Try.prog w base spare held m 28 [c3] = some y4 := by
    have h : DataW.trod enc Try.prog w base spare held m 28 ((cs.drop 13).take (Try.prog.cellsOf 28)) = some y4 := hall 4 _ rfl
    rw [cells28, show cs.drop 13 = [c0, c1, c2, c3, c4, c5, c6].drop 3 from hdk 3] at h
    exact h
  have h5 : DataW.trod enc Try.prog w base spare held m 29 [c4] = some y5 := by
    have h : DataW.trod enc Try.prog w base spare held m 29 ((cs.drop 14).take (Try.prog.cellsOf 29)) = some y5 := hall 5 _ rfl
    rw [cells29, show cs.drop 14 = [c0, c1, c2, c3, c4, c5, c6].drop 4 from hdk 4] at h
    exact h
  have h6 : DataW.trod enc Try.prog w base spare held m 30 [c5] = some y6 := by
    have h : DataW.trod enc Try.prog w base spare held m 30 ((cs.drop 15).take (Try.prog.cellsOf 30)) = some y6 := hall 6 _ rfl
    rw [cells30, show cs.drop 15 = [c0, c1, c2, c3, c4, c5, c6].drop 5 from hdk 5] at h
    exact h
  have h7 : DataW.trod enc Try.prog w base spare held m 31 [c6] = some y7 := by
    have h : DataW.trod enc Try.prog w base spare held m 31 ((cs.drop 16).take (Try.prog.cellsOf 31)) = some y7 := hall 7 _ rfl
    rw [cells31, show cs.drop 16 = [c0, c1, c2, c3, c4, c5, c6].drop 6 from hdk 6] at h
    exact h
  obtain ⟨ks, hkl, hkc, _⟩ := flat_trod 5 26 10 flat26 cells26 h0
  obtain ⟨n1, f1, _, _⟩ := DataW.trod_int Try.underlying3 h1
  obtain ⟨n2, f2, _, _⟩ := DataW.trod_int Try.underlying3 h2
  obtain ⟨v3, ins, f3, hi, b3⟩ := open_ints h3
  obtain ⟨v4, ops, f4, ho, hao, b4⟩ := open_ops h4
  obtain ⟨v5, links, f5, hlk, hal, b5⟩ := open_links h5
  obtain ⟨v6, virts, f6, hv, hav, b6⟩ := open_virts h6
  obtain ⟨v7, back, f7, hb, b7⟩ := open_srcs h7
  simp only [List.cons.injEq, and_true] at f1 f2 f3 f4 f5 f6 f7
  subst f1 f2 f3 f4 f5 f6 f7
  refine ⟨⟨⟨ks.toArray, by simpa using hkl⟩, n1, n2, _, _, _, _, _, ins, ops, links, virts, back⟩, ?_, ⟨hi, ho, hlk, hv, hb, hao, hal, hav⟩, ?_⟩
  · have h := List.take_append_drop 10 cs
    rw [hkc, hcs] at h
    rw [← h]
    rfl
  · have : Rows.uptoBulk y3.1 + Rows.uptoBulk y4.1 + Rows.uptoBulk y5.1 + Rows.uptoBulk y6.1 + Rows.uptoBulk y7.1 + 1 ≤ Rows.uptoBulk (DataW.agg (([y0, y1, y2, y3, y4, y5, y6, y7].map (·.1)))) := by
      simp only [List.map_cons, List.map_nil, Rows.uptoBulk, Rows.uptoBulkAll]
      omega
    simp only [LT.siz] at this ⊢
    omega
/-- A trace, as an argument. -/
theorem open_tr {r : Reach} {b0 : Nat} {v : Value} {dt : DataW H} {ps : List MemPlace} (hval : Value.okWide Try.prog w r b0 33 v) (hd : DataW.Trod enc Try.prog w base spare held 33 v dt ps) : ∃ t : LT, v = evT t ∧ RdT (· < w.heap.size) t w ∧ t.siz + 1 ≤ Rows.uptoBulk dt := by
  obtain ⟨cs, rfl, hcl⟩ := okWide_struct Try.underlying33 hval
  obtain ⟨fuel, hx⟩ := hd
  have hcl : cs.toList.length = 17 := by
    have h : Try.prog.cellsOf 33 = 17 := by kernel_rfl
    simpa [h] using hcl
  obtain ⟨t, h1, h2, h3⟩ := open_trace hx hcl
  refine ⟨t, ?_, h2, h3⟩
  unfold evT
  rw [← h1]
  simp [Value.cells]
/-- Traces, as an argument. -/
theorem open_trs {r : Reach} {b0 : Nat} {v : Value} {dt : DataW H} {ps : List MemPlace} (hval : Value.okWide Try.prog w r b0 44 v) (hd : DataW.Trod enc Try.prog w base spare held 44 v dt ps) : ∃ xs : List LT, (RdG 17 trC (· < w.heap.size) v xs w ∧ ∀ x ∈ xs, RdT (· < w.heap.size) x w) ∧ (xs.map fun x => x.siz + 1).sum + 1 ≤ Rows.uptoBulk dt := by
  obtain ⟨a, len, cap, rfl⟩ := okWide_slice Try.underlying44 hval
  obtain ⟨fuel, hx⟩ := hd
  obtain ⟨v, xs, a', cap', hc, hv, hl, hall⟩ := open_genD sl44 (by decide) (fun (x : LT) c => c = trC x ∧ RdT (· < w.heap.size) x w) (fun x => x.siz + 1) (fun fuel cs x hx hl => by
    obtain ⟨t, h1, h2, h3⟩ := open_trace hx hl
    exact ⟨t, ⟨h1, h2⟩, h3⟩) hx
  simp only [Value.cells, List.cons.injEq, and_true] at hc
  subst hc
  refine ⟨xs, ⟨⟨a', cap', hv, fun i y hi => ?_⟩, fun x hx => ?_⟩, hl⟩
  · obtain ⟨b, off, c, ha, hb, _, hat, rfl, _⟩ := hall i y hi
    exact ⟨b, off, ha, hb, hat⟩
  · obtain ⟨i, hi⟩ := List.mem_iff_getElem?.1 hx
    obtain ⟨_, _, _, _, _, _, _, _, h⟩ := hall i x hi
    exact h
theorem trs_small {xs : List LT} {n : Nat} (h : (xs.map fun x => x.siz + 1).sum ≤ n) (hn : n ≤ 2000000) : (∀ x ∈ xs, x.small) ∧ xs.length ≤ 2000000 := by
  refine ⟨fun x hx => small_siz ?_, ?_⟩
  · have := sum_mem (fun x : LT => x.siz + 1) hx; omega
  · have := sum_len LT.siz xs; omega
/-- Ints, as an argument. -/
theorem open_is {r : Reach} {b0 : Nat} {v : Value} {dt : DataW H} {ps : List MemPlace} (hval : Value.okWide Try.prog w r b0 27 v) (hd : DataW.Trod enc Try.prog w base spare held 27 v dt ps) : ∃ xs : List Int, RdG 1 iF (· < w.heap.size) v xs w ∧ xs.length + 1 ≤ Rows.uptoBulk dt := by
  obtain ⟨a, len, cap, rfl⟩ := okWide_slice Try.underlying27 hval
  obtain ⟨fuel, hx⟩ := hd
  obtain ⟨v, xs, hc, h1, h2⟩ := open_ints hx
  simp only [Value.cells, List.cons.injEq, and_true] at hc
  subst hc
  exact ⟨xs, h1, h2⟩
end

end Go.Proofs.Ytddhdoncjfgfnaa
