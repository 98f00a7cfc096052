/-
  Layer 15: traces that came in, opened, where no slice is longer than may come in. No condition beyond.
-/
import Derived.Test.YtddhdoncjfgfnaaOpen
import Derived.SizedLaws
namespace Go.Proofs.Ytddhdoncjfgfnaa
open Go.Eng Go.ChangeShapes Go.WideShapes Go.ChangeAt Go.RowKit Go.Deep

/-- No slice in it is longer than may come in. -/
def Wt {H : Type} (T : TypeId) (d : DataW H) : Prop := ∀ n ∈ d.weights Try.prog T, n ≤ reachBytes
theorem weights_all {H : Type} {P : Program} {e : TypeId} {d : DataW H} {n : Nat} (hn : n ∈ d.weights P e) : ∀ {l : List (DataW H)}, d ∈ l → n ∈ DataW.weightsAll P e l
  | [], h => by cases h
  | x :: l, h => by
    simp only [DataW.weightsAll, List.mem_append]
    rcases List.mem_cons.1 h with rfl | h
    · exact .inl hn
    · exact .inr (weights_all hn h)
theorem Wt.part {H : Type} {T j : Nat} {fs : Array Field} {f : Field} {parts : List (DataW H)} {d : DataW H} (h : Wt T (.agg parts)) (hu : Try.prog.underlying T = some (.struct fs)) (hf : fs[j]? = some f) (hd : parts[j]? = some d) : Wt f.type d := fun n hn =>
  h n (by
    simp only [DataW.weights, hu]
    exact DataW.weights_mem_each (j := j) (by simp [hf]) hd n hn)
theorem Wt.arg {H : Type} {ts : List TypeId} {ds : List (DataW H)} (h : (DataW.weightsEach Try.prog ts ds).all (· ≤ reachBytes) = true) {j : Nat} {t : TypeId} {d : DataW H} (ht : ts[j]? = some t) (hd : ds[j]? = some d) : Wt t d := fun n hn => by
  have := List.all_eq_true.1 h n (DataW.weights_mem_each ht hd n hn)
  simpa using this
section
variable {H : Type} {enc : TypeId × Value → H} {w : World} {base : Nat} {spare : Nat → Bool} {held : Bool}
theorem open_genW {T E s by_ : Nat} (hT : slOf Try.prog T = some (E, s, by_)) (hs0 : 0 < s) {α : Type} (R : α → List Value → Prop) (hR : ∀ fuel cs x, DataW.trod enc Try.prog w base spare held fuel E cs = some x → cs.length = s → Wt E x.1 → ∃ y, R y cs)
    {fuel : Nat} {cs : List Value} {x : DataW H × List MemPlace} (hx : DataW.trod enc Try.prog w base spare held fuel T cs = some x) (hw : Wt T x.1) :
    ∃ (v : Value) (xs : List α) (a : Option Addr) (cap : Nat), cs = [v] ∧ v = .slice a xs.length cap ∧ xs.length * by_ ≤ 140737488351232 ∧ ∀ i y, xs[i]? = some y → ∃ b off c, a = some ⟨b, off, none⟩ ∧ b < w.heap.size ∧ c.length = s ∧ At w b (off + i * s) c ∧ R y c := by
  obtain ⟨inf, hu, hinf, rfl, rfl⟩ := slOf_parts hT
  have hcE : Try.prog.cellsOf E = inf.size := by simp [Program.cellsOf, hinf]
  have hbE : Try.prog.bytesOf E = inf.bytes := by simp [Program.bytesOf, hinf]
  rcases open_slice hu hx with ⟨rfl, rfl⟩ | ⟨a, len, cap, m, n, D, Pl, rfl, _, hle, hm, hmm, rfl, hall⟩
  · exact ⟨_, [], none, 0, rfl, rfl, by simp, by simp⟩
  · have hlm : len ≤ m := by rw [hmm]; split <;> omega
    have hsz : len * inf.bytes ≤ 140737488351232 := by
      have h1 := hw ((len + (m - len)) * Try.prog.bytesOf E) (by simp [DataW.weights, hu])
      rw [hbE] at h1
      have h2 : len * inf.bytes ≤ (len + (m - len)) * inf.bytes := Nat.mul_le_mul_right _ (by omega)
      have h3 : reachBytes = 140737488351232 := rfl
      omega
    have hwi : ∀ i, i < len → Wt E (D i) := fun i hi k hk => hw k (by
      simp only [DataW.weights, hu]
      exact List.mem_cons_of_mem _ (List.mem_append.2 (.inl (weights_all hk (List.mem_map.2 ⟨i, List.mem_range.2 hi, rfl⟩)))))
    obtain ⟨xs, hxl, hxs⟩ := list_of (R := fun i (y : α) => ∃ c : List Value, c.length = inf.size ∧ (∀ j (u : Value), c[j]? = some u → w.cell? (a.add (i * inf.size + j)) = some u) ∧ R y c) len fun i hi => by
      obtain ⟨c, hcs, hd⟩ := hall i (by omega)
      obtain ⟨_, hcl, hcc⟩ := World.cells?_some hcs
      obtain ⟨y, hy⟩ := hR _ _ _ hd (by rw [hcl, hcE]) (hwi i hi)
      refine ⟨y, c, by rw [hcl, hcE], fun j u hj => ?_, hy⟩
      have hjl : j < c.length := (List.getElem?_eq_some_iff.1 hj).1
      have := hcc j (by omega)
      rw [hcE] at this
      rw [Addr.add_add] at this
      rw [this, hj]
    refine ⟨_, xs, some a, cap, rfl, by rw [hxl], by rw [hxl]; exact hsz, fun i y hi => ?_⟩
    have hi0 : 0 < xs.length := by have := (List.getElem?_eq_some_iff.1 hi).1; omega
    obtain ⟨c0, hl0, h0, _⟩ := hxs 0 _ (List.getElem?_eq_getElem hi0)
    have h2 := h0 0 _ (List.getElem?_eq_getElem (by omega))
    have hsp : a.spot = none := by
      have := World.cell?_spot h2
      simpa [Addr.add] using this
    obtain ⟨c, hcl, hcc, hy⟩ := hxs i y hi
    obtain ⟨b, off, sp⟩ := a
    simp only at hsp
    subst hsp
    refine ⟨b, off, c, rfl, by rw [add_eq] at h2; exact cells_lt h2, hcl, fun j u hj => ?_, hy⟩
    have := hcc j u hj
    rw [add_eq] at this
    rw [Nat.add_assoc]; exact this
theorem open_intsW {fuel : Nat} {cs : List Value} {x : DataW H × List MemPlace} (hx : DataW.trod enc Try.prog w base spare held fuel 27 cs = some x) (hw : Wt 27 x.1) : ∃ v xs, cs = [v] ∧ RdG 1 iF (· < w.heap.size) v xs w ∧ xs.length ≤ 17592186043904 := by
  obtain ⟨v, xs, a, cap, hc, hv, hl, hall⟩ := open_genW sl27 (by decide) (fun (y : Int) c => c = iF y) (fun fuel cs x hx _ _ => by
    obtain ⟨k, rfl, _, _⟩ := DataW.trod_int Try.underlying3 hx
    exact ⟨k, rfl⟩) hx hw
  refine ⟨v, xs, hc, ⟨a, cap, hv, fun i y hi => ?_⟩, by omega⟩
  obtain ⟨b, off, c, ha, hb, _, hat, rfl⟩ := hall i y hi
  exact ⟨b, off, ha, hb, hat⟩
theorem open_srcsW {fuel : Nat} {cs : List Value} {x : DataW H × List MemPlace} (hx : DataW.trod enc Try.prog w base spare held fuel 31 cs = some x) (hw : Wt 31 x.1) : ∃ v xs, cs = [v] ∧ RdG 4 scF (· < w.heap.size) v xs w ∧ xs.length ≤ 4398046510976 := by
  obtain ⟨v, xs, a, cap, hc, hv, hl, hall⟩ := open_genW sl31 (by decide) (fun (y : Sc) c => c = ic y.toList) (fun fuel cs x hx _ _ => by
    obtain ⟨ys, hyl, hyc, _⟩ := flat_trod 5 93 4 flat93 cells93 hx
    exact ⟨⟨ys.toArray, by simpa using hyl⟩, by simpa [Vector.toList] using hyc⟩) hx hw
  refine ⟨v, xs, hc, ⟨a, cap, hv, fun i y hi => ?_⟩, by omega⟩
  obtain ⟨b, off, c, ha, hb, _, hat, rfl⟩ := hall i y hi
  exact ⟨b, off, ha, hb, hat⟩
set_option maxRecDepth 20000 in
theorem open_opW {fuel : Nat} {cs : List Value} {x : DataW H × List MemPlace} (hx : DataW.trod enc Try.prog w base spare held fuel 39 cs = some x) (hw : Wt 39 x.1) (hl : cs.length = 5) : ∃ p : OpD × Value, cs = opC p ∧ RdG 4 scF (· < w.heap.size) p.2 p.1.args w ∧ p.1.args.length ≤ 4398046510976 := by
  obtain ⟨c0, c1, c2, c3, c4, rfl⟩ : ∃ c0 c1 c2 c3 c4, cs = [c0, c1, c2, c3, c4] := by
    match cs, hl with
    | [c0, c1, c2, c3, c4], _ => exact ⟨c0, c1, c2, c3, c4, rfl⟩
  obtain ⟨ys, m, _, rfl, _, hys, hall⟩ := DataW.trod_struct Try.underlying39 hx
  have hys : ys.length = 5 := hys
  obtain ⟨y0, y1, y2, y3, y4, rfl⟩ : ∃ y0 y1 y2 y3 y4, ys = [y0, y1, y2, y3, y4] := by
    match ys, hys with
    | [y0, y1, y2, y3, y4], _ => exact ⟨y0, y1, y2, y3, y4, rfl⟩
  have h0 : DataW.trod enc Try.prog w base spare held m 3 [c0] = some y0 := by simpa [cells3] using hall 0 _ rfl
  have h1 : DataW.trod enc Try.prog w base spare held m 31 [c1] = some y1 := by simpa [cells31] using hall 1 _ rfl
  have h2 : DataW.trod enc Try.prog w base spare held m 2 [c2] = some y2 := by simpa [cells2] using hall 2 _ rfl
  have h3 : DataW.trod enc Try.prog w base spare held m 3 [c3] = some y3 := by simpa [cells3] using hall 3 _ rfl
  have h4 : DataW.trod enc Try.prog w base spare held m 3 [c4] = some y4 := by simpa [cells3] using hall 4 _ rfl
  obtain ⟨n0, f0, _, _⟩ := DataW.trod_int Try.underlying3 h0
  obtain ⟨rv, xs, f1, hrd, hb⟩ := open_srcsW h1 (hw.part Try.underlying39 (j := 1) rfl rfl)
  obtain ⟨n2, f2, _, _⟩ := DataW.trod_int Try.underlying2 h2
  obtain ⟨n3, f3, _, _⟩ := DataW.trod_int Try.underlying3 h3
  obtain ⟨n4, f4, _, _⟩ := DataW.trod_int Try.underlying3 h4
  simp only [List.cons.injEq, and_true] at f0 f1 f2 f3 f4
  subst f0 f1 f2 f3 f4
  refine ⟨(⟨n0, xs, n2, n3, n4⟩, c1), rfl, hrd, hb⟩
set_option maxRecDepth 20000 in
theorem open_linkW {fuel : Nat} {cs : List Value} {x : DataW H × List MemPlace} (hx : DataW.trod enc Try.prog w base spare held fuel 76 cs = some x) (hw : Wt 76 x.1) (hl : cs.length = 5) : ∃ p : Lk × Value, cs = lkC p ∧ RdG 4 scF (· < w.heap.size) p.2 p.1.regs w ∧ p.1.regs.length ≤ 4398046510976 := by
  obtain ⟨c0, c1, c2, c3, c4, rfl⟩ : ∃ c0 c1 c2 c3 c4, cs = [c0, c1, c2, c3, c4] := by
    match cs, hl with
    | [c0, c1, c2, c3, c4], _ => exact ⟨c0, c1, c2, c3, c4, rfl⟩
  obtain ⟨ys, m, _, rfl, _, hys, hall⟩ := DataW.trod_struct Try.underlying76 hx
  have hys : ys.length = 5 := hys
  obtain ⟨y0, y1, y2, y3, y4, rfl⟩ : ∃ y0 y1 y2 y3 y4, ys = [y0, y1, y2, y3, y4] := by
    match ys, hys with
    | [y0, y1, y2, y3, y4], _ => exact ⟨y0, y1, y2, y3, y4, rfl⟩
  have h0 : DataW.trod enc Try.prog w base spare held m 3 [c0] = some y0 := by simpa [cells3] using hall 0 _ rfl
  have h1 : DataW.trod enc Try.prog w base spare held m 3 [c1] = some y1 := by simpa [cells3] using hall 1 _ rfl
  have h2 : DataW.trod enc Try.prog w base spare held m 3 [c2] = some y2 := by simpa [cells3] using hall 2 _ rfl
  have h3 : DataW.trod enc Try.prog w base spare held m 3 [c3] = some y3 := by simpa [cells3] using hall 3 _ rfl
  have h4 : DataW.trod enc Try.prog w base spare held m 31 [c4] = some y4 := by simpa [cells31] using hall 4 _ rfl
  obtain ⟨n0, f0, _, _⟩ := DataW.trod_int Try.underlying3 h0
  obtain ⟨n1, f1, _, _⟩ := DataW.trod_int Try.underlying3 h1
  obtain ⟨n2, f2, _, _⟩ := DataW.trod_int Try.underlying3 h2
  obtain ⟨n3, f3, _, _⟩ := DataW.trod_int Try.underlying3 h3
  obtain ⟨rv, xs, f4, hrd, hb⟩ := open_srcsW h4 (hw.part Try.underlying76 (j := 4) rfl rfl)
  simp only [List.cons.injEq, and_true] at f0 f1 f2 f3 f4
  subst f0 f1 f2 f3 f4
  refine ⟨(⟨n0, n1, n2, n3, xs⟩, c4), rfl, hrd, hb⟩
set_option maxRecDepth 20000 in
theorem open_virtW {fuel : Nat} {cs : List Value} {x : DataW H × List MemPlace} (hx : DataW.trod enc Try.prog w base spare held fuel 78 cs = some x) (hw : Wt 78 x.1) (hl : cs.length = 2) : ∃ p : Vt × Value, cs = vtC p ∧ RdG 4 scF (· < w.heap.size) p.2 p.1.cells w ∧ p.1.cells.length ≤ 4398046510976 := by
  obtain ⟨c0, c1, rfl⟩ : ∃ c0 c1, cs = [c0, c1] := by
    match cs, hl with
    | [c0, c1], _ => exact ⟨c0, c1, rfl⟩
  obtain ⟨ys, m, _, rfl, _, hys, hall⟩ := DataW.trod_struct Try.underlying78 hx
  have hys : ys.length = 2 := hys
  obtain ⟨y0, y1, rfl⟩ : ∃ y0 y1, ys = [y0, y1] := by
    match ys, hys with
    | [y0, y1], _ => exact ⟨y0, y1, rfl⟩
  have h0 : DataW.trod enc Try.prog w base spare held m 3 [c0] = some y0 := by simpa [cells3] using hall 0 _ rfl
  have h1 : DataW.trod enc Try.prog w base spare held m 31 [c1] = some y1 := by simpa [cells31] using hall 1 _ rfl
  obtain ⟨n0, f0, _, _⟩ := DataW.trod_int Try.underlying3 h0
  obtain ⟨rv, xs, f1, hrd, hb⟩ := open_srcsW h1 (hw.part Try.underlying78 (j := 1) rfl rfl)
  simp only [List.cons.injEq, and_true] at f0 f1
  subst f0 f1
  refine ⟨(⟨n0, xs⟩, c1), rfl, hrd, hb⟩
theorem open_opsW {fuel : Nat} {cs : List Value} {x : DataW H × List MemPlace} (hx : DataW.trod enc Try.prog w base spare held fuel 28 cs = some x) (hw : Wt 28 x.1) : ∃ (v : Value) (xs : List (OpD × Value)), cs = [v] ∧ RdG 5 opC (· < w.heap.size) v xs w ∧ (∀ p ∈ xs, RdG 4 scF (· < w.heap.size) p.2 p.1.args w ∧ p.1.args.length ≤ 4398046510976) ∧ xs.length ≤ 2513169434843 := by
  obtain ⟨v, xs, a, cap, hc, hv, hl, hall⟩ := open_genW sl28 (by decide) (fun (p : OpD × Value) c => c = opC p ∧ RdG 4 scF (· < w.heap.size) p.2 p.1.args w ∧ p.1.args.length ≤ 4398046510976) (fun fuel cs x hx hl hw => by
    obtain ⟨p, h1, h2, h3⟩ := open_opW hx hw hl
    exact ⟨p, h1, h2, h3⟩) hx hw
  refine ⟨v, xs, hc, ⟨a, cap, hv, fun i y hi => ?_⟩, fun p hp => ?_, by omega⟩
  · obtain ⟨b, off, c, ha, hb, _, hat, rfl, _⟩ := hall i y hi
    exact ⟨b, off, ha, hb, hat⟩
  · obtain ⟨i, hi⟩ := List.mem_iff_getElem?.1 hp
    obtain ⟨_, _, _, _, _, _, _, _, h⟩ := hall i p hi
    exact h
theorem open_linksW {fuel : Nat} {cs : List Value} {x : DataW H × List MemPlace} (hx : DataW.trod enc Try.prog w base spare held fuel 29 cs = some x) (hw : Wt 29 x.1) : ∃ (v : Value) (xs : List (Lk × Value)), cs = [v] ∧ RdG 5 lkC (· < w.heap.size) v xs w ∧ (∀ p ∈ xs, RdG 4 scF (· < w.heap.size) p.2 p.1.regs w ∧ p.1.regs.length ≤ 4398046510976) ∧ xs.length ≤ 2513169434843 := by
  obtain ⟨v, xs, a, cap, hc, hv, hl, hall⟩ := open_genW sl29 (by decide) (fun (p : Lk × Value) c => c = lkC p ∧ RdG 4 scF (· < w.heap.size) p.2 p.1.regs w ∧ p.1.regs.length ≤ 4398046510976) (fun fuel cs x hx hl hw => by
    obtain ⟨p, h1, h2, h3⟩ := open_linkW hx hw hl
    exact ⟨p, h1, h2, h3⟩) hx hw
  refine ⟨v, xs, hc, ⟨a, cap, hv, fun i y hi => ?_⟩, fun p hp => ?_, by omega⟩
  · obtain ⟨b, off, c, ha, hb, _, hat, rfl, _⟩ := hall i y hi
    exact ⟨b, off, ha, hb, hat⟩
  · obtain ⟨i, hi⟩ := List.mem_iff_getElem?.1 hp
    obtain ⟨_, _, _, _, _, _, _, _, h⟩ := hall i p hi
    exact h
theorem open_virtsW {fuel : Nat} {cs : List Value} {x : DataW H × List MemPlace} (hx : DataW.trod enc Try.prog w base spare held fuel 30 cs = some x) (hw : Wt 30 x.1) : ∃ (v : Value) (xs : List (Vt × Value)), cs = [v] ∧ RdG 2 vtC (· < w.heap.size) v xs w ∧ (∀ p ∈ xs, RdG 4 scF (· < w.heap.size) p.2 p.1.cells w ∧ p.1.cells.length ≤ 4398046510976) ∧ xs.length ≤ 4398046510976 := by
  obtain ⟨v, xs, a, cap, hc, hv, hl, hall⟩ := open_genW sl30 (by decide) (fun (p : Vt × Value) c => c = vtC p ∧ RdG 4 scF (· < w.heap.size) p.2 p.1.cells w ∧ p.1.cells.length ≤ 4398046510976) (fun fuel cs x hx hl hw => by
    obtain ⟨p, h1, h2, h3⟩ := open_virtW hx hw hl
    exact ⟨p, h1, h2, h3⟩) hx hw
  refine ⟨v, xs, hc, ⟨a, cap, hv, fun i y hi => ?_⟩, fun p hp => ?_, by omega⟩
  · obtain ⟨b, off, c, ha, hb, _, hat, rfl, _⟩ := hall i y hi
    exact ⟨b, off, ha, hb, hat⟩
  · obtain ⟨i, hi⟩ := List.mem_iff_getElem?.1 hp
    obtain ⟨_, _, _, _, _, _, _, _, h⟩ := hall i p hi
    exact h
set_option maxRecDepth 20000 in
theorem open_traceW {fuel : Nat} {cs : List Value} {x : DataW H × List MemPlace} (hx : DataW.trod enc Try.prog w base spare held fuel 33 cs = some x) (hw : Wt 33 x.1) (hl : cs.length = 17) : ∃ t : LT, cs = trC t ∧ RdT (· < w.heap.size) t w ∧ t.small := by
  have hd : (cs.drop 10).length = 7 := by rw [List.length_drop, hl]
  obtain ⟨c0, c1, c2, c3, c4, c5, c6, hcs⟩ : ∃ c0 c1 c2 c3 c4 c5 c6, cs.drop 10 = [c0, c1, c2, c3, c4, c5, c6] := by
    match hc : cs.drop 10, hd with
    | [c0, c1, c2, c3, c4, c5, c6], _ => exact ⟨c0, c1, c2, c3, c4, c5, c6, rfl⟩
  have hdk : ∀ k, cs.drop (10 + k) = [c0, c1, c2, c3, c4, c5, c6].drop k := fun k => by rw [← hcs, List.drop_drop]
  obtain ⟨ys, m, _, rfl, _, hys, hall⟩ := DataW.trod_struct Try.underlying33 hx
  have hys : ys.length = 8 := hys
  obtain ⟨y0, y1, y2, y3, y4, y5, y6, y7, rfl⟩ : ∃ y0 y1 y2 y3 y4 y5 y6 y7, ys = [y0, y1, y2, y3, y4, y5, y6, y7] := by
    match ys, hys with
    | [y0, y1, y2, y3, y4, y5, y6, y7], _ => exact ⟨y0, y1, y2, y3, y4, y5, y6, y7, rfl⟩
  have h0 : DataW.trod enc Try.prog w base spare held m 26 (cs.take 10) = some y0 := by simpa [cells26] using hall 0 _ rfl
  have h1 : DataW.trod enc Try.prog w base spare held m 3 [c0] = some y1 := by
    have h : DataW.trod enc Try.prog w base spare held m 3 ((cs.drop 10).take (Try.prog.cellsOf 3)) = some y1 := hall 1 _ rfl
    rw [cells3, show cs.drop 10 = [c0, c1, c2, c3, c4, c5, c6].drop 0 from hdk 0] at h
    exact h
  have h2 : DataW.trod enc Try.prog w base spare held m 3 [c1] = some y2 := by
    have h : DataW.trod enc Try.prog w base spare held m 3 ((cs.drop 11).take (Try.prog.cellsOf 3)) = some y2 := hall 2 _ rfl
    rw [cells3, show cs.drop 11 = [c0, c1, c2, c3, c4, c5, c6].drop 1 from hdk 1] at h
    exact h
  have h3 : DataW.trod enc Try.prog w base spare held m 27 [c2] = some y3 := by
    have h : DataW.trod enc Try.prog w base spare held m 27 ((cs.drop 12).take (Try.prog.cellsOf 27)) = some y3 := hall 3 _ rfl
    rw [cells27, show cs.drop 12 = [c0, c1, c2, c3, c4, c5, c6].drop 2 from hdk 2] at h
    exact h
  have h4 : DataW.trod enc Try.prog w base spare held m 28 [c3] = some y4 := by
    have h : DataW.trod enc Try.prog w base spare held m 28 ((cs.drop 13).take (Try.prog.cellsOf 28)) = some y4 := hall 4 _ rfl
    rw [cells28, show cs.drop 13 = [c0, c1, c2, c3, c4, c5, c6].drop 3 from hdk 3] at h
    exact h
  have h5 : DataW.trod enc Try.prog w base spare held m 29 [c4] = some y5 := by
    have h : DataW.trod enc Try.prog w base spare held m 29 ((cs.drop 14).take (Try.prog.cellsOf 29)) = some y5 := hall 5 _ rfl
    rw [cells29, show cs.drop 14 = [c0, c1, c2, c3, c4, c5, c6].drop 4 from hdk 4] at h
    exact h
  have h6 : DataW.trod enc Try.prog w base spare held m 30 [c5] = some y6 := by
    have h : DataW.trod enc Try.prog w base spare held m 30 ((cs.drop 15).take (Try.prog.cellsOf 30)) = some y6 := hall 6 _ rfl
    rw [cells30, show cs.drop 15 = [c0, c1, c2, c3, c4, c5, c6].drop 5 from hdk 5] at h
    exact h
  have h7 : DataW.trod enc Try.prog w base spare held m 31 [c6] = some y7 := by
    have h : DataW.trod enc Try.prog w base spare held m 31 ((cs.drop 16).take (Try.prog.cellsOf 31)) = some y7 := hall 7 _ rfl
    rw [cells31, show cs.drop 16 = [c0, c1, c2, c3, c4, c5, c6].drop 6 from hdk 6] at h
    exact h
  obtain ⟨ks, hkl, hkc, _⟩ := flat_trod 5 26 10 flat26 cells26 h0
  obtain ⟨n1, f1, _, _⟩ := DataW.trod_int Try.underlying3 h1
  obtain ⟨n2, f2, _, _⟩ := DataW.trod_int Try.underlying3 h2
  obtain ⟨v3, ins, f3, hi, b3⟩ := open_intsW h3 (hw.part Try.underlying33 (j := 3) rfl rfl)
  obtain ⟨v4, ops, f4, ho, hao, b4⟩ := open_opsW h4 (hw.part Try.underlying33 (j := 4) rfl rfl)
  obtain ⟨v5, links, f5, hlk, hal, b5⟩ := open_linksW h5 (hw.part Try.underlying33 (j := 5) rfl rfl)
  obtain ⟨v6, virts, f6, hv, hav, b6⟩ := open_virtsW h6 (hw.part Try.underlying33 (j := 6) rfl rfl)
  obtain ⟨v7, back, f7, hb, b7⟩ := open_srcsW h7 (hw.part Try.underlying33 (j := 7) rfl rfl)
  simp only [List.cons.injEq, and_true] at f1 f2 f3 f4 f5 f6 f7
  subst f1 f2 f3 f4 f5 f6 f7
  refine ⟨⟨⟨ks.toArray, by simpa using hkl⟩, n1, n2, _, _, _, _, _, ins, ops, links, virts, back⟩, ?_, ⟨hi, ho, hlk, hv, hb, fun p hp => (hao p hp).1, fun p hp => (hal p hp).1, fun p hp => (hav p hp).1⟩, ⟨b3, b4, b5, b6, b7, fun p hp => (hao p hp).2, fun p hp => (hal p hp).2, fun p hp => (hav p hp).2⟩⟩
  · have h := List.take_append_drop 10 cs
    rw [hkc, hcs] at h
    rw [← h]
    rfl
/-- A trace, as an argument. -/
theorem open_trW {r : Reach} {b0 : Nat} {v : Value} {dt : DataW H} {ps : List MemPlace} (hval : Value.okWide Try.prog w r b0 33 v) (hd : DataW.Trod enc Try.prog w base spare held 33 v dt ps) (hw : Wt 33 dt) : ∃ t : LT, v = evT t ∧ RdT (· < w.heap.size) t w ∧ t.small := by
  obtain ⟨cs, rfl, hcl⟩ := okWide_struct Try.underlying33 hval
  obtain ⟨fuel, hx⟩ := hd
  have hcl : cs.toList.length = 17 := by
    have h : Try.prog.cellsOf 33 = 17 := by kernel_rfl
    simpa [h] using hcl
  obtain ⟨t, h1, h2, h3⟩ := open_traceW hx hw hcl
  refine ⟨t, ?_, h2, h3⟩
  unfold evT
  rw [← h1]
  simp [Value.cells]
/-- Traces, as an argument. -/
theorem open_trsW {r : Reach} {b0 : Nat} {v : Value} {dt : DataW H} {ps : List MemPlace} (hval : Value.okWide Try.prog w r b0 44 v) (hd : DataW.Trod enc Try.prog w base spare held 44 v dt ps) (hw : Wt 44 dt) : ∃ xs : List LT, (RdG 17 trC (· < w.heap.size) v xs w ∧ ∀ x ∈ xs, RdT (· < w.heap.size) x w) ∧ (∀ x ∈ xs, x.small) ∧ xs.length ≤ 651562446070 := by
  obtain ⟨a, len, cap, rfl⟩ := okWide_slice Try.underlying44 hval
  obtain ⟨fuel, hx⟩ := hd
  obtain ⟨v, xs, a', cap', hc, hv, hl, hall⟩ := open_genW sl44 (by decide) (fun (x : LT) c => c = trC x ∧ RdT (· < w.heap.size) x w ∧ x.small) (fun fuel cs x hx hl hw => by
    obtain ⟨t, h1, h2, h3⟩ := open_traceW hx hw hl
    exact ⟨t, h1, h2, h3⟩) hx hw
  simp only [Value.cells, List.cons.injEq, and_true] at hc
  subst hc
  have hall2 : ∀ x ∈ xs, RdT (· < w.heap.size) x w ∧ x.small := fun x hx => by
    obtain ⟨i, hi⟩ := List.mem_iff_getElem?.1 hx
    obtain ⟨_, _, _, _, _, _, _, _, h⟩ := hall i x hi
    exact h
  refine ⟨xs, ⟨⟨a', cap', hv, fun i y hi => ?_⟩, fun x hx => (hall2 x hx).1⟩, fun x hx => (hall2 x hx).2, by omega⟩
  obtain ⟨b, off, c, ha, hb, _, hat, rfl, _⟩ := hall i y hi
  exact ⟨b, off, ha, hb, hat⟩
/-- Ints, as an argument. -/
theorem open_isW {r : Reach} {b0 : Nat} {v : Value} {dt : DataW H} {ps : List MemPlace} (hval : Value.okWide Try.prog w r b0 27 v) (hd : DataW.Trod enc Try.prog w base spare held 27 v dt ps) (hw : Wt 27 dt) : ∃ xs : List Int, RdG 1 iF (· < w.heap.size) v xs w ∧ xs.length ≤ 17592186043904 := by
  obtain ⟨a, len, cap, rfl⟩ := okWide_slice Try.underlying27 hval
  obtain ⟨fuel, hx⟩ := hd
  obtain ⟨v, xs, hc, h1, h2⟩ := open_intsW hx hw
  simp only [Value.cells, List.cons.injEq, and_true] at hc
  subst hc
  exact ⟨xs, h1, h2⟩
end

end Go.Proofs.Ytddhdoncjfgfnaa
