/-
  The engine: a region that draws its order where acts may come in several orders: a tree of orders stands for all. No condition.
-/
import Derived.Test.YtddhdoncjfgfnaaActs
namespace Go.Eng

/-- Orders: the end; no other act may come; a read, then ..; an act, then ..; or another act in its place. -/
inductive Tr where
  | fin
  | no
  | rd (i : Nat) (t : Tr)
  | alt (i : Nat) (t r : Tr)
namespace Tr
def heads : Tr → List Nat
  | .alt i _ r => i :: heads r
  | _ => []
def full (p : Pl) (q : List Nat) (t : Tr) : Bool := q.all fun j => (heads t).contains j || q.any fun x => (p.m j).testBit x
def ok (p : Pl) : Bool → List Nat → Tr → Bool
  | false, q, .fin => q.isEmpty
  | true, _, .fin => false
  | false, _, .no => false
  | true, _, .no => true
  | true, _, .rd _ _ => false
  | false, q, .rd i t => q.contains i && !p.E i && (q.all fun j => j == i || (p.m j).testBit i || p.apart i j) && ok p false (q.erase i) t
  | true, q, .alt i t r => q.contains i && ok p false (q.erase i) t && ok p true q r
  | false, q, .alt i t r => full p q (.alt i t r) && (q.contains i && ok p false (q.erase i) t && ok p true q r)
end Tr

def stdyT (P : Program) (p : Pl) (S : World → Prop) (o : Oper) (v : Value) (f : Fm) : Prop :=
  (wantedF p.ops f o = true ∧ ∀ w, S w → (execOp (ev f) o).run P w = .ok (.value v) w) ∨ (wantedF p.ops f o = false ∧ v = undef)
def dqT (P : Program) (p : Pl) (S : World → Prop) (Qn : Fm → World → Prop) (Qp : List PanicEntry → World → Prop) : Tr → Fm → World → Prop
  | .fin, f, w => S w ∧ Qn f w
  | .no, _, _ => True
  | .rd i t, f, w => S w ∧ ∃ o, p.ops[i]? = some o ∧ ∃ v, stdyT P p S o v f ∧ dqT P p S Qn Qp t (put f o.dst v) w
  | .alt i t r, f, w => S w ∧ (∃ o, p.ops[i]? = some o ∧ opG P p.ops o f w (dqT P p S Qn Qp t) Qp) ∧ dqT P p S Qn Qp r f w

section
variable {P : Program} {p : Pl} {S : World → Prop} {Qn : Fm → World → Prop} {Qp : List PanicEntry → World → Prop}
theorem dqT_S {q : List Nat} {f : Fm} {w : World} : ∀ {t : Tr}, t.ok p false q = true → dqT P p S Qn Qp t f w → S w
  | .fin, _, h => h.1
  | .no, ho, _ => by simp [Tr.ok] at ho
  | .rd _ _, _, h => h.1
  | .alt _ _ _, _, h => h.1

theorem pullA {j : Nat} {o : Oper} (hj : p.ops[j]? = some o) {q : List Nat} {f : Fm} {w : World} : ∀ (t : Tr), t.ok p true q = true → j ∈ t.heads → dqT P p S Qn Qp t f w →
    ∃ t', Tr.ok p false (q.erase j) t' = true ∧ opG P p.ops o f w (dqT P p S Qn Qp t') Qp
  | .fin, _, hh, _ => by cases hh
  | .no, _, hh, _ => by cases hh
  | .rd _ _, _, hh, _ => by cases hh
  | .alt i t r, ho, hh, h => by
    simp only [Tr.ok, Bool.and_eq_true] at ho
    obtain ⟨⟨_, h1⟩, h2⟩ := ho
    obtain ⟨_, ⟨o', ho', hop⟩, hr⟩ := h
    rcases List.mem_cons.1 hh with rfl | hh
    · rw [hj] at ho'; cases ho'
      exact ⟨t, h1, hop⟩
    · exact pullA hj r h2 hh hr

/-- One that may come now comes first. -/
theorem pull {j : Nat} {o : Oper} (hj : p.ops[j]? = some o) (hns : Region.noSelect p.ops = true) : ∀ (t : Tr) (q : List Nat) (f : Fm) (w : World), t.ok p false q = true → j ∈ q → (∀ x ∈ q, (p.m j).testBit x = false) → dqT P p S Qn Qp t f w →
    ∃ t', Tr.ok p false (q.erase j) t' = true ∧ opG P p.ops o f w (dqT P p S Qn Qp t') Qp
  | .fin, q, _, _, ho, hq, _, _ => by
    simp only [Tr.ok, List.isEmpty_iff] at ho
    subst ho; cases hq
  | .no, _, _, _, ho, _, _, _ => by simp [Tr.ok] at ho
  | .alt i t r, q, f, w, ho, hq, hx, h => by
    have ho' : Tr.full p q (.alt i t r) = true ∧ Tr.ok p true q (.alt i t r) = true := by
      simp only [Tr.ok, Bool.and_eq_true] at ho ⊢
      exact ho
    have hf := ho'.1
    simp only [Tr.full, List.all_eq_true, Bool.or_eq_true, List.any_eq_true] at hf
    rcases hf j hq with hm | ⟨x, hxq, hb⟩
    · exact pullA hj _ ho'.2 (by simpa using hm) h
    · rw [hx x hxq] at hb; cases hb
  | .rd i t, q, f, w, ho, hq, hr, h => by
    simp only [Tr.ok, Bool.and_eq_true, List.all_eq_true, Bool.or_eq_true, Bool.not_eq_true', beq_iff_eq] at ho
    obtain ⟨⟨⟨hiq, hE⟩, hap⟩, hok⟩ := ho
    have hiq : i ∈ q := by simpa using hiq
    obtain ⟨hS, oi, hoi, vi, hvi, h⟩ := h
    by_cases hij : i = j
    · subst hij
      rw [hj] at hoi; cases hoi
      refine ⟨t, hok, ?_⟩
      unfold opG
      rcases hvi with ⟨hw, hv⟩ | ⟨hw, rfl⟩
      · rw [if_pos hw]
        unfold opF
        rw [hv w hS]
        exact h
      · rw [if_neg (by rw [hw]; decide)]
        exact h
    · have hji : j ≠ i := fun e => hij e.symm
      obtain ⟨t1, hok1, ih⟩ := pull hj hns t (q.erase i) _ w hok ((List.mem_erase_of_ne hji).2 hq) (fun x hx => hr x (List.mem_of_mem_erase hx)) h
      refine ⟨.rd i t1, ?_, ?_⟩
      · simp only [Tr.ok, Bool.and_eq_true, List.all_eq_true, Bool.or_eq_true, Bool.not_eq_true', beq_iff_eq]
        refine ⟨⟨⟨?_, hE⟩, fun y hy => hap y (List.mem_of_mem_erase hy)⟩, by rw [List.erase_comm]; exact hok1⟩
        simpa using (List.mem_erase_of_ne hij).2 hiq
      · have hapj := hap j hq
        rw [hr i hiq] at hapj
        have hapj := hapj.resolve_left (fun e => e.elim hji (fun e => by cases e))
        simp only [Pl.apart, hoi, hj] at hapj
        obtain ⟨h1, h2, h3⟩ := Oper.apart_spec hapj
        have hsi : ∀ cs b, o.op ≠ .select cs b := fun cs b => Region.noSelect_spec hns j o cs b hj
        have hsx : ∀ cs b, oi.op ≠ .select cs b := fun cs b => Region.noSelect_spec hns i oi cs b hoi
        have keep : ∀ u, stdyT P p S oi vi (put f o.dst u) := fun u => by
          unfold stdyT at hvi ⊢
          rw [exec_put (ops := p.ops) hsx h3, wantedF_put h3]
          exact hvi
        have back : ∀ u w', dqT P p S Qn Qp t1 (put (put f oi.dst vi) o.dst u) w' → dqT P p S Qn Qp (.rd i t1) (put f o.dst u) w' := fun u w' hd => by
          rw [put_comm f vi u h2] at hd
          exact ⟨dqT_S hok1 hd, oi, hoi, vi, keep u, hd⟩
        unfold opG at ih ⊢
        rw [wantedF_put h1] at ih
        split
        · rename_i hw
          rw [if_pos hw] at ih
          unfold opF at ih ⊢
          rw [exec_put (ops := p.ops) hsi h1] at ih
          generalize (execOp (ev f) o).run P w = r at ih ⊢
          cases r with
          | ok nx w' =>
            cases nx <;> simp only [aft] at ih ⊢
            case value u => exact back u w' ih
            case skip => exact back undef w' ih
            case enter g args =>
              refine ih.mono fun e w'' he => ?_
              cases e with
              | returned u => exact back u w'' he
              | panicked c => exact he
              | outgrown => exact he
          | halt z w' => cases z <;> exact ih
        · rename_i hw
          rw [if_neg hw] at ih
          exact back undef w ih
end

section
variable {P : Program} {p : Pl} {S : World → Prop} {n : Nat} {ds : List Deferred} {Q : Exit → Fm → World → Prop} {Qp : List PanicEntry → World → Prop}
structure LeftT (p : Pl) (q : List Nat) (L : Array Bool) : Prop where
  mem : ∀ i, i < p.ops.size → (L.getD i true = false ↔ i ∈ q)
  size : L.size = p.ops.size
  lt : ∀ i ∈ q, i < p.ops.size
  closed : ∀ j o, p.ops[j]? = some o → j ∉ q → ∀ e ∈ o.after, Region.binds .any e = true → e.on ∉ q
  nodup : q.Nodup
theorem comeT (g : Good p) {q : List Nat} (hc : ∀ j o, p.ops[j]? = some o → j ∉ q → ∀ e ∈ o.after, Region.binds .any e = true → e.on ∉ q) : ∀ (N j : Nat) (o : Oper), j < N → p.ops[j]? = some o → (∀ e ∈ o.after, Region.binds .any e = true → e.on ∉ q) →
    ∀ x, x < p.ops.size → (p.m j).testBit x = true → x ∉ q
  | 0, _, _, h, _, _, _, _, _ => absurd h (by omega)
  | N + 1, j, o, h, ho, hall, x, hx, hb => by
    obtain ⟨e, he, hbi, hor⟩ := g.cert j o ho x hx hb
    rcases hor with rfl | hor
    · exact hall e he hbi
    · have hlt := g.edges j o ho e he hbi
      have hj : j < p.ops.size := (Array.getElem?_eq_some_iff.1 ho).1
      have hoe : p.ops[e.on]? = some p.ops[e.on] := Array.getElem?_eq_getElem (by omega)
      exact comeT g hc N e.on _ (by omega) hoe (hc e.on _ hoe (hall e he hbi)) x hx hor

theorem any_of_tree (g : Good p) (hok : okOps n p.ops = true) : ∀ (N : Nat) (q : List Nat), q.length = N → ∀ (t : Tr) (L : Array Bool) (f : Fm) (w : World), LeftT p q L → t.ok p false q = true → dqT P p S (Q .normal) Qp t f w →
    wpAny P .any p.ops (lift n ds Q Qp) N L (fr n f ds) w
  | 0, q, hq, t, L, f, w, l, ho, h => by
    obtain rfl : q = [] := List.length_eq_zero_iff.1 hq
    have ht : t = .fin := by
      cases t <;> simp [Tr.ok] at ho
      rfl
    subst ht
    refine ⟨?_, ⟨f, rfl, h.2⟩⟩
    cases hr : Region.ready .any p.ops L with
    | nil => rfl
    | cons j r =>
      have hj : j ∈ Region.ready .any p.ops L := by rw [hr]; simp
      obtain ⟨h0, o, ho, _⟩ := mem_ready.1 hj
      have := (l.mem j (Array.getElem?_eq_some_iff.1 ho).1).1 h0
      cases this
  | N + 1, q, hq, t, L, f, w, l, ho, h => by
    refine ⟨fun hr => ?_, fun i hi => ?_⟩
    · exfalso
      have hne : q ≠ [] := fun e => by rw [e] at hq; cases hq
      have hmin : ∀ (B : Nat), (∃ i ∈ q, i < B) → ∃ i ∈ q, ∀ y ∈ q, i ≤ y := by
        intro B
        induction B with
        | zero => rintro ⟨i, _, h⟩; omega
        | succ B ih =>
          rintro ⟨i, hi, hB⟩
          by_cases hB' : ∃ i ∈ q, i < B
          · exact ih hB'
          · refine ⟨i, hi, fun y hy => ?_⟩
            rcases Nat.lt_or_ge y B with h' | h'
            · exact absurd ⟨y, hy, h'⟩ hB'
            · omega
      obtain ⟨x, hx⟩ := List.exists_mem_of_ne_nil q hne
      obtain ⟨i, hi, hle⟩ := hmin (x + 1) ⟨x, hx, by omega⟩
      have hil := l.lt i hi
      have hio : p.ops[i]? = some p.ops[i] := Array.getElem?_eq_getElem hil
      have : i ∈ Region.ready .any p.ops L := mem_ready.2 ⟨(l.mem i hil).2 hi, _, hio, fun e he hb => by
        have hlt := g.edges i _ hio e he hb
        have hnq : e.on ∉ q := fun hm => by have := hle _ hm; omega
        cases hL : L.getD e.on false with
        | true => rfl
        | false =>
          have hsz : e.on < L.size := by rw [l.size]; omega
          have : L.getD e.on true = false := by
            simp [hsz] at hL ⊢; exact hL
          exact absurd ((l.mem e.on (by omega)).1 this) hnq⟩
      rw [hr] at this
      cases this
    · obtain ⟨h0, o, hoi, hall⟩ := mem_ready.1 hi
      have hil : i < p.ops.size := (Array.getElem?_eq_some_iff.1 hoi).1
      have hiq := (l.mem i hil).1 h0
      have hnq : ∀ e ∈ o.after, Region.binds .any e = true → e.on ∉ q := fun e he hb hm => by
        have h1 := hall e he hb
        have h2 := (l.mem e.on (l.lt _ hm)).2 hm
        have hsz : e.on < L.size := by rw [l.size]; exact l.lt _ hm
        simp [hsz] at h1 h2
        rw [h1] at h2; cases h2
      have hanc : ∀ x, x < p.ops.size → (p.m i).testBit x = true → x ∉ q := comeT g l.closed (i + 1) i o (by omega) hoi hnq
      obtain ⟨t', hok', hopG⟩ := pull hoi g.nsel t q f w ho hiq (fun x hx => by
        cases hb : (p.m i).testBit x with
        | false => rfl
        | true => exact absurd hx (hanc x (l.lt x hx) hb)) h
      have l' : LeftT p (q.erase i) (L.setIfInBounds i true) := by
        refine ⟨fun j hj => ?_, by simp [l.size], fun j hj => l.lt j (List.mem_of_mem_erase hj), fun j oj hoj hjq e he hb hm => ?_, l.nodup.erase _⟩
        · rw [l.nodup.mem_erase_iff]
          by_cases hji : j = i
          · subst hji
            have hsz : j < L.size := by rw [l.size]; exact hj
            constructor
            · intro hc; simp [hsz] at hc
            · intro hc; exact absurd rfl hc.1
          · rw [getD_set_ne true (fun e => hji e.symm), l.mem j hj]
            simp [hji]
        · by_cases hji : j = i
          · subst hji
            rw [hoi] at hoj; cases hoj
            exact hnq e he hb (List.mem_of_mem_erase hm)
          · refine l.closed j oj hoj (fun hc => hjq ((List.mem_erase_of_ne hji).2 hc)) e he hb (List.mem_of_mem_erase hm)
      have ih := fun f' w' hd => any_of_tree g hok N (q.erase i) (by rw [List.length_erase_of_mem hiq]; omega) t' (L.setIfInBounds i true) f' w' l' hok' hd
      have hoo := okOps_get hok hoi
      unfold wpOp
      simp only [hoi]
      rw [wanted_fr hok]
      unfold opG at hopG
      split
      · rename_i hw
        rw [if_pos hw] at hopG
        refine .inl ?_
        unfold Oper.wp
        rw [exec_fr hoo]
        exact upon_of_aft hoo (fun f' w' hd => ih f' w' hd) (fun c a w hd hc => ⟨hd, hc⟩) hopG
      · rename_i hw
        rw [if_neg hw] at hopG
        rw [fr_put (okO_parts hoo).2.1]
        exact ih _ _ hopG

def Pl.okG (p : Pl) : Bool := (List.range p.ops.size).all p.edges && (List.range p.ops.size).all p.cert && Region.noSelect p.ops
/-- THE RULE: the tree stands for all orders. -/
theorem W_tree {id : Nat} {ops : Array Oper} {f : Fm} {w0 w : World} {F0 : List Nat} {ls : List Ck} (hs : St w0 F0 ls w) (hm : P.follows .mixedOrders = true) (m : List Bool) (t effs : List Nat) (tr : Tr)
    (hc : (okOps n ops && Pl.okG ⟨ops, t, effs⟩ && tr.ok ⟨ops, t, effs⟩ false (List.range ops.size)) = true)
    (h : ∀ w, St w0 F0 ls w → dqT P ⟨ops, t, effs⟩ (fun w => St w0 F0 (zipMask m ls) w) (Q .normal) Qp tr f w) : W P n ds (.region id ops true) Q Qp f w := by
  simp only [Bool.and_eq_true, Pl.okG, List.all_eq_true] at hc
  obtain ⟨⟨hok, ⟨c5, c6⟩, c8⟩, htr⟩ := hc
  unfold W
  refine wp_region_any hm ?_
  have g : Good (⟨ops, t, effs⟩ : Pl) := by
    refine ⟨fun j o ho e he hb => ?_, fun j o ho x hx hbit => ?_, c8⟩
    · have hj : j < ops.size := (Array.getElem?_eq_some_iff.1 ho).1
      have := c5 j (List.mem_range.2 hj)
      have ho' : ops[j]? = some o := ho
      simp only [Pl.edges, ho'] at this
      have := (Array.all_eq_true_iff_forall_mem.1 this) e he
      simpa [hb] using this
    · have hj : j < ops.size := (Array.getElem?_eq_some_iff.1 ho).1
      have := c6 j (List.mem_range.2 hj)
      have ho' : ops[j]? = some o := ho
      simp only [Pl.cert, ho', List.all_eq_true] at this
      have := this x (List.mem_range.2 hx)
      rw [hbit] at this
      simp only [Bool.not_true, Bool.false_or] at this
      obtain ⟨e, he, hb⟩ := Array.any_eq_true'.1 this
      simp only [Bool.and_eq_true, Bool.or_eq_true, beq_iff_eq] at hb
      exact ⟨e, he, hb.1, hb.2⟩
  have l : LeftT (⟨ops, t, effs⟩ : Pl) (List.range ops.size) (Array.replicate ops.size false) := by
    refine ⟨fun i hi => ?_, by simp, fun i hi => by simpa using hi, fun j o ho hj => ?_, List.nodup_range⟩
    · have hi' : i < ops.size := hi
      simp [hi']
    · have hj' : j < ops.size := (Array.getElem?_eq_some_iff.1 ho).1
      exact absurd (List.mem_range.2 hj') hj
  exact any_of_tree (p := ⟨ops, t, effs⟩) g hok ops.size (List.range ops.size) (by simp) tr _ f _ l htr (h _ hs.drew)
end

/-! ### Steps -/
section
variable {P : Program} {p : Pl} {S : World → Prop} {Qn : Fm → World → Prop} {Qp : List PanicEntry → World → Prop} {o : Oper} {f : Fm} {w : World} {v : Value} {i : Nat} {t r : Tr}
theorem tq_r (hS : S w) (ho : p.ops[i]? = some o) (hw : wantedF p.ops f o = true) (hrun : ∀ w, S w → (execOp (ev f) o).run P w = .ok (.value v) w) (k : dqT P p S Qn Qp t (put f o.dst v) w) : dqT P p S Qn Qp (.rd i t) f w :=
  ⟨hS, o, ho, v, .inl ⟨hw, hrun⟩, k⟩
theorem tq_n (hS : S w) (ho : p.ops[i]? = some o) (hw : wantedF p.ops f o = false) (k : dqT P p S Qn Qp t (put f o.dst undef) w) : dqT P p S Qn Qp (.rd i t) f w :=
  ⟨hS, o, ho, undef, .inr ⟨hw, rfl⟩, k⟩
theorem tq_e (hS : S w) (ho : p.ops[i]? = some o) (hw : wantedF p.ops f o = true) (k : opF P o f w (dqT P p S Qn Qp t) Qp) : dqT P p S Qn Qp (.alt i t .no) f w :=
  ⟨hS, ⟨o, ho, by unfold opG; rw [if_pos hw]; exact k⟩, trivial⟩
theorem tq_or (hS : S w) (ho : p.ops[i]? = some o) (hw : wantedF p.ops f o = true) (k : opF P o f w (dqT P p S Qn Qp t) Qp) (k' : dqT P p S Qn Qp r f w) : dqT P p S Qn Qp (.alt i t r) f w :=
  ⟨hS, ⟨o, ho, by unfold opG; rw [if_pos hw]; exact k⟩, k'⟩
theorem tq_z (hS : S w) (k : Qn f w) : dqT P p S Qn Qp .fin f w := ⟨hS, k⟩
end
end Go.Eng
