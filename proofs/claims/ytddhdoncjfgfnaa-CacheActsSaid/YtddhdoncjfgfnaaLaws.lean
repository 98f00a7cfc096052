/-
  The engine: arguments made of ints, opened; what a law's row asks for, closed from what a walk gives. No condition.
-/
import Derived.Test.YtddhdoncjfgfnaaElems
import Derived.WalkKit
import Derived.ProofKit
import Derived.OpenShut
import Derived.Carry
import Derived.Deep.Slices
namespace Go.Eng
open Go.ChangeShapes Go.WideShapes Go.ChangeAt Go.RowKit Go.Deep

section
variable {H : Type} {enc : TypeId × Value → H} {P : Program} {w : World} {base : Nat} {spare : Nat → Bool} {held : Bool}

def In64 (n : Int) : Prop := -9223372036854775808 ≤ n ∧ n ≤ 9223372036854775807
theorem flat_trod : ∀ (d : Nat) (T : TypeId) (n : Nat), flat P d T n = true → P.cellsOf T = n → ∀ {fuel : Nat} {cs : List Value} {x : DataW H × List MemPlace}, DataW.trod enc P w base spare held fuel T cs = some x →
    ∃ xs : List Int, xs.length = n ∧ cs = ic xs ∧ ∀ i ∈ xs, In64 i
  | 0, _, _, h, _, _, _, _, _ => by simp [flat] at h
  | d + 1, T, n, h, hn, fuel, cs, x, hx => by
    unfold flat at h
    split at h
    · rename_i hu
      have h1 : n = 1 := by simpa using h
      subst h1
      obtain ⟨k, rfl, _, hw⟩ := DataW.trod_int hu hx
      exact ⟨[k], rfl, rfl, fun i hi => by simp at hi; subst hi; exact bounds_i64 hw⟩
    · rename_i fs hu
      simp only [Bool.and_eq_true, Bool.not_eq_true'] at h
      obtain ⟨_, hf⟩ := h
      obtain ⟨ys, m, _, _, hl, hys, hall⟩ := DataW.trod_struct hu hx
      have hmem : ∀ f ∈ fs.toList, ∃ y, DataW.trod enc P w base spare held m f.type ((cs.drop f.offset).take (P.cellsOf f.type)) = some y := by
        intro f hf'
        obtain ⟨i, hi⟩ := List.mem_iff_getElem?.1 hf'
        have hi' : fs[i]? = some f := by simpa using hi
        have := hall i f hi'
        have hlt : i < ys.length := by rw [hys]; exact (Array.getElem?_eq_some_iff.1 hi').1
        rw [List.getElem?_eq_getElem hlt] at this
        exact ⟨_, this⟩
      have key : ∀ (l : List Field) (off : Nat), (∀ f ∈ l, ∃ y, DataW.trod enc P w base spare held m f.type ((cs.drop f.offset).take (P.cellsOf f.type)) = some y) → flatF (flat P d) P n l off = true → off ≤ n →
          ∃ xs : List Int, xs.length = n - off ∧ cs.drop off = ic xs ∧ ∀ i ∈ xs, In64 i := by
        intro l
        induction l with
        | nil =>
          intro off _ h _
          have : off = n := by simpa [flatF] using h
          subst this
          exact ⟨[], by simp, by rw [List.drop_of_length_le (by omega)]; rfl, by simp⟩
        | cons f l ih =>
          intro off hm h hle
          simp only [flatF, Bool.and_eq_true] at h
          obtain ⟨⟨⟨⟨_, ho⟩, hi⟩, hfl⟩, hr⟩ := h
          have ho : f.offset = off := by simpa using ho
          obtain ⟨y, hy⟩ := hm f (by simp)
          rw [ho] at hy
          obtain ⟨xs, hxl, hxs, hxr⟩ := flat_trod d f.type _ hfl rfl hy
          have hfit : off + P.cellsOf f.type ≤ n := by
            have := congrArg List.length hxs
            simp only [List.length_take, List.length_drop, ic_length, hxl, hl, hn] at this
            omega
          obtain ⟨zs, hzl, hzs, hzr⟩ := ih (off + P.cellsOf f.type) (fun f' hf' => hm f' (by simp [hf'])) hr hfit
          refine ⟨xs ++ zs, by rw [List.length_append, hxl, hzl]; omega, ?_, fun i hi => ?_⟩
          · rw [ic_app, ← hxs, ← hzs, ← List.drop_drop, List.take_append_drop]
          · rcases List.mem_append.1 hi with hi | hi
            · exact hxr i hi
            · exact hzr i hi
      have := key fs.toList 0 hmem hf (Nat.zero_le _)
      simpa using this
    · rename_i len e hu
      simp only [Bool.and_eq_true, beq_iff_eq] at h
      obtain ⟨⟨_, hne⟩, hfl⟩ := h
      obtain ⟨ys, m, _, _, hl, hys, hall⟩ := DataW.trod_array hu hx
      have key : ∀ k, k ≤ len → ∃ xs : List Int, xs.length = k * P.cellsOf e ∧ cs.take (k * P.cellsOf e) = ic xs ∧ ∀ i ∈ xs, In64 i := by
        intro k
        induction k with
        | zero => intro _; exact ⟨[], by simp, by simp [ic], by simp⟩
        | succ k ih =>
          intro hk
          obtain ⟨xs, hxl, hxs, hxr⟩ := ih (by omega)
          have hk' := hall k (by omega)
          rw [List.getElem?_eq_getElem (by omega)] at hk'
          obtain ⟨zs, hzl, hzs, hzr⟩ := flat_trod d e _ hfl rfl hk'
          refine ⟨xs ++ zs, by rw [List.length_append, hxl, hzl, Nat.succ_mul], ?_, fun i hi => ?_⟩
          · rw [ic_app, ← hxs, ← hzs, Nat.succ_mul, List.take_add]
          · rcases List.mem_append.1 hi with hi | hi
            · exact hxr i hi
            · exact hzr i hi
      obtain ⟨xs, h1, h2, h3⟩ := key len (Nat.le_refl _)
      refine ⟨xs, by rw [h1, hne], ?_, h3⟩
      rw [← h2, List.take_of_length_le (by rw [hl, hn, hne]; exact Nat.le_refl _)]
    · cases h

/-- A struct of ints, as it came in. -/
theorem open_flat {r : Reach} {b0 T d n : Nat} {fs : Array Field} {v : Value} {dt : DataW H} {ps : List MemPlace} (ht : P.underlying T = some (.struct fs)) (hf : flat P d T n = true) (hn : P.cellsOf T = n) (hval : Value.okWide P w r b0 T v) (hd : DataW.Trod enc P w base spare held T v dt ps) :
    ∃ k : Vector Int n, v = encV k ∧ ∀ i ∈ k.toList, In64 i := by
  obtain ⟨cs, rfl, _⟩ := okWide_struct ht hval
  obtain ⟨fuel, hx⟩ := hd
  obtain ⟨xs, hl, hc, hr⟩ := flat_trod d T n hf hn hx
  refine ⟨⟨xs.toArray, by simpa using hl⟩, ?_, by simpa using hr⟩
  have : cs.toList = ic xs := by simpa [Value.cells] using hc
  unfold encV
  simp only [Vector.toList]
  rw [← this]

/-- A slice that came in: its elements, of s ints each, lie in old memory. -/
structure Arg (s : Nat) (w : World) (v : Value) (xs : List (Vector Int s)) : Prop where
  val : ∃ a cap, v = .slice a xs.length cap ∧ ∀ i x, xs[i]? = some x → ∃ b off, a = some ⟨b, off, none⟩ ∧ b < w.heap.size ∧ At w b (off + i * s) (ic x.toList)
  len : xs.length ≤ maxLen
  rng : ∀ x ∈ xs, ∀ i ∈ x.toList, In64 i

theorem cells_lt {b : Addr} {v : Value} (h : w.cell? b = some v) : b.block < w.heap.size := by
  unfold World.cell? at h
  split at h
  · rename_i hb
    exact (Array.getElem?_eq_some_iff.1 hb).1
  · cases h

theorem open_arg {r : Reach} {b0 T E s by_ d : Nat} {v : Value} {dt : DataW H} {ps : List MemPlace} (hT : slOf P T = some (E, s, by_)) (hf : flat P d E s = true) (hs0 : 0 < s) (hval : Value.okWide P w r b0 T v) (hd : DataW.Trod enc P w base spare held T v dt ps) :
    ∃ xs : List (Vector Int s), Arg s w v xs := by
  obtain ⟨inf, hu, hinf, rfl, rfl⟩ := slOf_parts hT
  have hcE : P.cellsOf E = inf.size := by simp [Program.cellsOf, hinf]
  obtain ⟨a, len, cap, rfl⟩ := okWide_slice hu hval
  obtain ⟨fuel, hx⟩ := hd
  rcases open_slice hu hx with ⟨h1, _⟩ | ⟨a', len', cap', m, n, D, Pl, h1, _, hle, hm, hmm, _, hall⟩
  · simp only [Value.cells, List.cons.injEq, Value.slice.injEq, and_true] at h1
    obtain ⟨rfl, rfl, rfl⟩ := h1
    exact ⟨[], ⟨none, 0, rfl, by simp⟩, by simp, by simp⟩
  · simp only [Value.cells, List.cons.injEq, Value.slice.injEq, and_true] at h1
    obtain ⟨rfl, rfl, rfl⟩ := h1
    have hlm : len ≤ m := by rw [hmm]; split <;> omega
    have hel : ∀ i, i < len → ∃ x : Vector Int inf.size, (∀ j (u : Value), (ic x.toList)[j]? = some u → w.cell? (a'.add (i * inf.size + j)) = some u) ∧ ∀ k ∈ x.toList, In64 k := by
      intro i hi
      obtain ⟨cs, hcs, hd⟩ := hall i (by omega)
      obtain ⟨ys, hyl, hyc, hyr⟩ := flat_trod d E _ hf hcE hd
      obtain ⟨_, hcl, hcc⟩ := World.cells?_some hcs
      refine ⟨⟨ys.toArray, by simpa using hyl⟩, fun j u hj => ?_, by simpa using hyr⟩
      have hj' : cs[j]? = some u := by rw [hyc]; simpa [Vector.toList] using hj
      have hjl : j < cs.length := (List.getElem?_eq_some_iff.1 hj').1
      have := hcc j (by omega)
      rw [hcE] at this
      rw [Addr.add_add] at this
      rw [this, hj']
    have hx2 : ∃ xs : List (Vector Int inf.size), xs.length = len ∧ ∀ i x, xs[i]? = some x → (∀ j (u : Value), (ic x.toList)[j]? = some u → w.cell? (a'.add (i * inf.size + j)) = some u) ∧ ∀ k ∈ x.toList, In64 k := by
      clear hall hmm hx hval hlm
      have : ∀ k, k ≤ len → ∃ xs : List (Vector Int inf.size), xs.length = k ∧ ∀ i x, xs[i]? = some x → (∀ j (u : Value), (ic x.toList)[j]? = some u → w.cell? (a'.add (i * inf.size + j)) = some u) ∧ ∀ k ∈ x.toList, In64 k := by
        intro k
        induction k with
        | zero => intro _; exact ⟨[], rfl, by simp⟩
        | succ k ih =>
          intro hk
          obtain ⟨xs, hxl, hxs⟩ := ih (by omega)
          obtain ⟨x, hx⟩ := hel k (by omega)
          refine ⟨xs ++ [x], by simp [hxl], fun i y hy => ?_⟩
          by_cases hi : i < k
          · rw [List.getElem?_append_left (by omega)] at hy
            exact hxs i y hy
          · have hi2 := (List.getElem?_eq_some_iff.1 hy).1
            simp only [List.length_append, List.length_cons, List.length_nil, hxl] at hi2
            obtain rfl : i = k := by omega
            rw [List.getElem?_append_right (by omega), hxl] at hy
            simp at hy; subst hy
            exact hx
      exact this len (Nat.le_refl _)
    obtain ⟨xs, hxl, hxs⟩ := hx2
    refine ⟨xs, ⟨some a', cap, by rw [hxl], fun i x hi => ?_⟩, by rw [hxl]; omega, fun x hx => ?_⟩
    · have h1 := (hxs i x hi).1
      have hi0 : 0 < xs.length := by have := (List.getElem?_eq_some_iff.1 hi).1; omega
      have h00 := (hxs 0 _ (List.getElem?_eq_getElem hi0)).1
      have h0l : ∀ y : Vector Int inf.size, 0 < (ic y.toList).length := fun y => by simpa using hs0
      have h2 := h00 0 _ (List.getElem?_eq_getElem (h0l _))
      have hsp : a'.spot = none := by
        have := World.cell?_spot h2
        simpa [Addr.add] using this
      obtain ⟨b, off, sp⟩ := a'
      simp only at hsp
      subst hsp
      refine ⟨b, off, rfl, by rw [add_eq] at h2; exact cells_lt h2, fun j u hj => ?_⟩
      have := h1 j u hj
      rw [add_eq] at this
      rw [Nat.add_assoc]; exact this
    · obtain ⟨i, hi⟩ := List.mem_iff_getElem?.1 hx
      exact (hxs i x hi).2
end

theorem St.oldAt {w0 w : World} {F0 : List Nat} {ls : List Ck} (h : St w0 F0 ls w) {b off : Nat} {vs : List Value} (hb : b < w0.heap.size) (hF : b ∉ F0) (ha : At w0 b off vs) : At w b off vs :=
  fun j v hj => by rw [h.oldcell hb hF]; exact ha j v hj
theorem Arg.old {s : Nat} {w0 w : World} {ls : List Ck} {v : Value} {xs : List (Vector Int s)} (h : Arg s w0 v xs) (hs : St w0 [] ls w) : Arg s w v xs := by
  obtain ⟨⟨a, cap, hv, hall⟩, hl, hr⟩ := h
  refine ⟨⟨a, cap, hv, fun i x hi => ?_⟩, hl, hr⟩
  obtain ⟨b, off, ha, hb, hat⟩ := hall i x hi
  exact ⟨b, off, ha, Nat.lt_of_lt_of_le hb hs.size, hs.oldAt hb (by simp) hat⟩

/-! ### A law's row -/
theorem St.below {w0 w : World} {ls : List Ck} (h : St w0 [] ls w) : Below w0.heap.size w0 w :=
  ⟨h.os, h.tape, h.output, h.size, fun k hk => h.old k hk (by simp)⟩
theorem below_all {H : Type} {enc : TypeId × Value → H} {P : Program} (hl : laidOutB P = true) {W W' : World} (hb : Below W.heap.size W W') : ∀ (ts : List TypeId) (vs : List Value) (ds : List (DataW H)) (ps : List MemPlace),
    (ts.all fun t => P.readableRec t && decide (t < P.types.size)) = true → DataW.TrodAll enc P W 0 (fun _ => true) true ts vs ds ps → (∀ x ∈ ps, x.block < W.heap.size) →
    DataW.TrodAll enc P W' 0 (fun b => decide (b < W.heap.size)) true ts vs ds ps
  | [], [], [], _, _, h, _ => h
  | [], [], _ :: _, _, _, h, _ => h.elim
  | [], _ :: _, _, _, _, h, _ => by cases h
  | _ :: _, [], _, _, _, h, _ => by cases h
  | _ :: _, _ :: _, [], _, _, h, _ => by cases h
  | t :: ts, v :: vs, d :: ds, ps, hr, h, hlt => by
    obtain ⟨p, q, hp, hq, rfl⟩ := h
    simp only [List.all_cons, Bool.and_eq_true, decide_eq_true_eq] at hr
    exact ⟨p, q, Below.trod hl hr.1.1 hr.1.2 hp hb (fun x hx => hlt x (by simp [hx])), below_all hl hb ts vs ds q (by simpa using hr.2) hq (fun x hx => hlt x (by simp [hx])), rfl⟩

/-- What a walk gives, as the row's post: true; the arguments read as they did. -/
theorem law_post {H : Type} {enc : TypeId × Value → H} {P : Program} {fn : Func} {s : ChangeSpec} {W W' : World} {args : Array Value} {ds gs : List (DataW H)} {before : List MemPlace} {tb : TypeId} {ls : List Ck}
    (hl : laidOutB P = true) (hr : (fn.params.toList.all fun t => P.readableRec t && decide (t < P.types.size)) = true) (hrt : fn.resultTypes = #[tb]) (ub : P.underlying tb = some .bool) (hv : s.vars = [])
    (hW : DataW.Whole enc P fn.params.toList s.vars false W args.toList ds gs before) (hs : s.fn H (ds ++ []) = { results := [.lit (.bool true)], args := ds }) (hst : St W [] ls W') :
    s.post enc P fn false true false false W args (.bool true) W' := by
  have hW' := hW
  obtain ⟨p, q, hA, hV, rfl, hfz, hnd⟩ := hW
  rw [hv] at hV
  obtain ⟨rfl, rfl⟩ := trodVars_none hV
  have hlt : ∀ x ∈ p ++ [], x.block < W.heap.size := fun x hx => by simpa using hW'.lt x hx
  refine ⟨ds, [], p ++ [], [], p, [], hW', ?_, ?_, ?_, hst.below.frame _, fun h => nomatch h⟩
  · rw [hs, hrt]
    exact trodAll_cons_mk (shut_bool ub _) trodAll_mk0
  · rw [hs]
    exact below_all hl hst.below _ _ _ _ hr hA (fun x hx => hlt x (by simpa using hx))
  · rw [hs, hv]
    rfl
end Go.Eng
