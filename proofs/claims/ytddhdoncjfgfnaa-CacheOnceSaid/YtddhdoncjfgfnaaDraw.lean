/-
  The engine, a region that draws its order: one order, in which what only reads comes as soon as it may, stands for all orders. No condition.
-/
import Derived.Test.YtddhdoncjfgfnaaEngine
namespace Go.Eng

/-! ### What one frame's slots are to an operation that does not look at them -/
theorem ev_put {f : Fm} {d : Option Nat} {v : Value} {x : Operand} (h : ∀ e, d = some e → x ≠ .tmp e) : ev (put f d v) x = ev f x := by
  cases d with
  | none => rfl
  | some d =>
    cases x with
    | tmp t =>
      have : ¬ t = d := fun e => h d rfl (by rw [e])
      simp [ev, put, upd, this]
    | _ => rfl
theorem exec_put {ops : Array Oper} {o : Oper} (hs : ∀ cs b, o.op ≠ .select cs b) {f : Fm} {d : Option Nat} {v : Value} (h : ∀ e, d = some e → e ∉ o.looksAt ops) :
    execOp (ev (put f d v)) o = execOp (ev f) o :=
  execOp_congr o hs fun x hx => ev_put fun e he hxe => h e he (by
    subst hxe
    exact List.mem_append_left _ (List.mem_filterMap.2 ⟨.tmp e, by simpa using hx, rfl⟩))
theorem wantedF_put {ops : Array Oper} {o : Oper} {f : Fm} {d : Option Nat} {v : Value} (h : ∀ e, d = some e → e ∉ o.looksAt ops) : wantedF ops (put f d v) o = wantedF ops f o := by
  cases d with
  | none => rfl
  | some d =>
    unfold wantedF
    cases hg : o.guard with
    | none => rfl
    | some gw =>
      obtain ⟨g, want⟩ := gw
      have hy : yF ops (put f (some d) v) g = yF ops f g := by
        unfold yF
        cases ht : (ops[g]?).bind (·.dst) with
        | none => rfl
        | some t =>
          have hne : ¬ t = d := fun e => h d rfl (by subst e; simp [Oper.looksAt, hg, ht])
          simp [put, upd, hne]
      simp only [hy]
theorem put_comm (f : Fm) {x y : Option Nat} (v u : Value) (h : ∀ d, x = some d → y ≠ some d) : put (put f x v) y u = put (put f y u) x v := by
  cases x with
  | none => rfl
  | some d =>
    cases y with
    | none => rfl
    | some e =>
      have hne : ¬ e = d := fun he => h d rfl (by rw [he])
      funext t
      simp only [put, upd]
      by_cases h1 : t = e
      · subst h1; rw [if_pos rfl, if_neg hne, if_pos rfl]
      · rw [if_neg h1, if_neg h1]

/-! ### The order -/
structure Pl where
  ops : Array Oper
  /-- of each operation those on which it waits, as bits -/
  t : List Nat
  /-- those that act -/
  effs : List Nat

namespace Pl
def m (p : Pl) (i : Nat) : Nat := p.t.getD i 0
def E (p : Pl) (i : Nat) : Bool := p.effs.contains i
def apart (p : Pl) (x j : Nat) : Bool := match p.ops[x]?, p.ops[j]? with | some a, some b => a.apart p.ops b | _, _ => false
def edges (p : Pl) (j : Nat) : Bool := match p.ops[j]? with | some o => o.after.all fun e => !Region.binds .any e || decide (e.on < j) | none => true
def cert (p : Pl) (j : Nat) : Bool :=
  match p.ops[j]? with
  | some o => (List.range p.ops.size).all fun x => !(p.m j).testBit x || o.after.any fun e => Region.binds .any e && (e.on == x || (p.m e.on).testBit x)
  | none => true
def pairs (p : Pl) : List Nat → Bool
  | [] => true
  | x :: r => (r.all fun j => (p.m j).testBit x || (!p.E x && p.apart x j)) && pairs p r
def ok (p : Pl) (plan : List Nat) : Bool :=
  (List.range p.ops.size).all (fun i => plan.contains i) && plan.all (fun i => decide (i < p.ops.size)) && decide plan.Nodup && decide (plan.length = p.ops.size) &&
  (List.range p.ops.size).all p.edges && (List.range p.ops.size).all p.cert && p.pairs plan && Region.noSelect p.ops
/-- How many of those that act have come. -/
def k (p : Pl) (q : List Nat) : Nat := p.effs.countP fun x => !q.contains x
def lo (p : Pl) (i : Nat) : Nat := p.effs.countP fun x => (p.m i).testBit x
def hi (p : Pl) (i : Nat) : Nat := p.effs.countP fun x => !(p.m x).testBit i
end Pl

/-- It answers v and leaves the world alone, in every world that it may meet. -/
def stdy (P : Program) (p : Pl) (S : Nat → World → Prop) (o : Oper) (i : Nat) (v : Value) (f : Fm) : Prop :=
  (wantedF p.ops f o = true ∧ ∀ k w, p.lo i ≤ k → k ≤ p.hi i → S k w → (execOp (ev f) o).run P w = .ok (.value v) w) ∨ (wantedF p.ops f o = false ∧ v = undef)

def dq (P : Program) (p : Pl) (S : Nat → World → Prop) (Qn : Fm → World → Prop) (Qp : List PanicEntry → World → Prop) : List Nat → Fm → World → Prop
  | [], f, w => S (p.k []) w ∧ Qn f w
  | i :: q, f, w => S (p.k (i :: q)) w ∧ ∃ o, p.ops[i]? = some o ∧
      if p.E i = true then opG P p.ops o f w (dq P p S Qn Qp q) Qp else ∃ v, stdy P p S o i v f ∧ dq P p S Qn Qp q (put f o.dst v) w

section
variable {P : Program} {p : Pl} {S : Nat → World → Prop} {Qn : Fm → World → Prop} {Qp : List PanicEntry → World → Prop}

theorem dq_S : ∀ {q : List Nat} {f : Fm} {w : World}, dq P p S Qn Qp q f w → S (p.k q) w
  | [], _, _, h => h.1
  | _ :: _, _, _, h => h.1

theorem k_cons {x : Nat} (hx : p.E x = false) (q : List Nat) : p.k (x :: q) = p.k q := by
  unfold Pl.k
  refine List.countP_congr fun y hy => ?_
  have : ¬ y = x := fun e => by subst e; simp [Pl.E, hy] at hx
  simp [this]

/-- One that may come now comes first. -/
theorem swap {i : Nat} {o : Oper} (hi : p.ops[i]? = some o) (hns : Region.noSelect p.ops = true) (q2 : List Nat) :
    ∀ (q1 : List Nat) (f : Fm) (w : World), p.pairs (q1 ++ i :: q2) = true → (∀ x ∈ q1, (p.m i).testBit x = false) →
      (p.lo i ≤ p.k (q1 ++ i :: q2) ∧ p.k (q1 ++ i :: q2) ≤ p.hi i) → dq P p S Qn Qp (q1 ++ i :: q2) f w → opG P p.ops o f w (dq P p S Qn Qp (q1 ++ q2)) Qp
  | [], f, w, _, _, hk, h => by
    obtain ⟨hS, o', ho', h⟩ := h
    rw [hi] at ho'
    cases ho'
    split at h
    · exact h
    · obtain ⟨v, hv, h⟩ := h
      unfold opG
      rcases hv with ⟨hw, hv⟩ | ⟨hw, rfl⟩
      · rw [if_pos hw]
        unfold opF
        rw [hv _ w hk.1 hk.2 hS]
        exact h
      · rw [if_neg (by rw [hw]; decide)]
        exact h
  | x :: q1, f, w, hp, hr, hk, h => by
    simp only [List.cons_append, Pl.pairs, Bool.and_eq_true, List.all_eq_true, Bool.or_eq_true] at hp
    obtain ⟨hx, hp⟩ := hp
    have hxi := hx i (by simp)
    rw [hr x (by simp)] at hxi
    obtain ⟨hE, hap⟩ := hxi.resolve_left (by decide)
    have hE : p.E x = false := by simpa using hE
    obtain ⟨_, ox, hox, h⟩ := h
    rw [if_neg (by rw [hE]; decide)] at h
    obtain ⟨vx, hvx, h⟩ := h
    have hkx : p.k (x :: q1 ++ i :: q2) = p.k (q1 ++ i :: q2) := by rw [List.cons_append]; exact k_cons hE _
    have ih := swap hi hns q2 q1 _ w hp (fun y hy => hr y (by simp [hy])) (hkx ▸ hk) h
    simp only [Pl.apart, hox, hi] at hap
    obtain ⟨h1, h2, h3⟩ := Oper.apart_spec hap
    have hsi : ∀ cs b, o.op ≠ .select cs b := fun cs b => Region.noSelect_spec hns i o cs b hi
    have hsx : ∀ cs b, ox.op ≠ .select cs b := fun cs b => Region.noSelect_spec hns x ox cs b hox
    have keep : ∀ u, stdy P p S ox x vx (put f o.dst u) := fun u => by
      unfold stdy at hvx ⊢
      rw [exec_put (ops := p.ops) hsx h3, wantedF_put h3]
      exact hvx
    have back : ∀ u w', dq P p S Qn Qp (q1 ++ q2) (put (put f ox.dst vx) o.dst u) w' → dq P p S Qn Qp (x :: q1 ++ q2) (put f o.dst u) w' := fun u w' hd => by
      rw [put_comm f vx u h2] at hd
      refine ⟨?_, ox, hox, ?_⟩
      · have := dq_S hd
        have e : p.k (x :: (q1 ++ q2)) = p.k (q1 ++ q2) := k_cons hE _
        show S (p.k (x :: (q1 ++ q2))) w'
        rw [e]
        exact this
      · rw [if_neg (by rw [hE]; decide)]
        exact ⟨vx, keep u, hd⟩
    unfold opG at ih ⊢
    rw [wantedF_put h1] at ih
    split
    · rename_i hw
      rw [if_pos hw] at ih
      unfold opF at ih ⊢
      rw [exec_put (ops := p.ops) hsi h1] at ih
      generalize (execOp (ev f) o).run P w = r at ih ⊢
      cases r with
      | ok nx w' =>
        cases nx <;> simp only [aft] at ih ⊢
        case value u => exact back u w' ih
        case skip => exact back undef w' ih
        case enter g args =>
          refine ih.mono fun e w'' he => ?_
          cases e with
          | returned u => exact back u w'' he
          | panicked c => exact he
          | outgrown => exact he
      | halt z w' => cases z <;> exact ih
    · rename_i hw
      rw [if_neg hw] at ih
      exact back undef w ih
end

section
variable {P : Program} {p : Pl} {S : Nat → World → Prop} {n : Nat} {ds : List Deferred} {Q : Exit → Fm → World → Prop} {Qp : List PanicEntry → World → Prop}

structure Left (p : Pl) (q : List Nat) (L : Array Bool) : Prop where
  mem : ∀ i, i < p.ops.size → (L.getD i true = false ↔ i ∈ q)
  size : L.size = p.ops.size
  lt : ∀ i ∈ q, i < p.ops.size
  closed : ∀ j o, p.ops[j]? = some o → j ∉ q → ∀ e ∈ o.after, Region.binds .any e = true → e.on ∉ q
  nodup : q.Nodup
  pairs : p.pairs q = true

structure Good (p : Pl) : Prop where
  edges : ∀ j o, p.ops[j]? = some o → ∀ e ∈ o.after, Region.binds .any e = true → e.on < j
  cert : ∀ j o, p.ops[j]? = some o → ∀ x, x < p.ops.size → (p.m j).testBit x = true → ∃ e ∈ o.after, Region.binds .any e = true ∧ (e.on = x ∨ (p.m e.on).testBit x = true)
  nsel : Region.noSelect p.ops = true

/-- On whom one waits through others has come, where all on whom it waits have come. -/
theorem Good.come (g : Good p) {q : List Nat} {L : Array Bool} (l : Left p q L) : ∀ (N j : Nat) (o : Oper), j < N → p.ops[j]? = some o → (∀ e ∈ o.after, Region.binds .any e = true → e.on ∉ q) →
    ∀ x, x < p.ops.size → (p.m j).testBit x = true → x ∉ q
  | 0, _, _, h, _, _, _, _, _ => absurd h (by omega)
  | N + 1, j, o, h, ho, hall, x, hx, hb => by
    obtain ⟨e, he, hbi, hor⟩ := g.cert j o ho x hx hb
    rcases hor with rfl | hor
    · exact hall e he hbi
    · have hlt := g.edges j o ho e he hbi
      have hj : j < p.ops.size := (Array.getElem?_eq_some_iff.1 ho).1
      have hoe : p.ops[e.on]? = some p.ops[e.on] := Array.getElem?_eq_getElem (by omega)
      exact g.come l N e.on _ (by omega) hoe (l.closed e.on _ hoe (hall e he hbi)) x hx hor

theorem countP_le_of {α : Type} {a b : α → Bool} (l : List α) (h : ∀ x ∈ l, a x = true → b x = true) : l.countP a ≤ l.countP b := by
  induction l with
  | nil => simp
  | cons x r ih =>
    have := ih (fun y hy => h y (by simp [hy]))
    have hx := h x (by simp)
    rw [List.countP_cons, List.countP_cons]
    cases ha : a x
    · simp; omega
    · rw [hx ha]; simp; omega

theorem any_of_dq (g : Good p) (hok : okOps n p.ops = true) (heffs : ∀ x ∈ p.effs, x < p.ops.size) : ∀ (N : Nat) (q : List Nat), q.length = N → ∀ (L : Array Bool) (f : Fm) (w : World), Left p q L → dq P p S (Q .normal) Qp q f w →
    wpAny P .any p.ops (lift n ds Q Qp) N L (fr n f ds) w
  | 0, q, hq, L, f, w, l, h => by
    obtain rfl : q = [] := List.length_eq_zero_iff.1 hq
    refine ⟨?_, ⟨f, rfl, h.2⟩⟩
    cases hr : Region.ready .any p.ops L with
    | nil => rfl
    | cons j r =>
      have hj : j ∈ Region.ready .any p.ops L := by rw [hr]; simp
      obtain ⟨h0, o, ho, _⟩ := mem_ready.1 hj
      have := (l.mem j (Array.getElem?_eq_some_iff.1 ho).1).1 h0
      cases this
  | N + 1, q, hq, L, f, w, l, h => by
    refine ⟨fun hr => ?_, fun i hi => ?_⟩
    · -- the least number that is left may come
      exfalso
      have hne : q ≠ [] := fun e => by rw [e] at hq; cases hq
      have hmin : ∀ (B : Nat), (∃ i ∈ q, i < B) → ∃ i ∈ q, ∀ y ∈ q, i ≤ y := by
        intro B
        induction B with
        | zero => rintro ⟨i, _, h⟩; omega
        | succ B ih =>
          rintro ⟨i, hi, hB⟩
          by_cases hB' : ∃ i ∈ q, i < B
          · exact ih hB'
          · refine ⟨i, hi, fun y hy => ?_⟩
            rcases Nat.lt_or_ge y B with h' | h'
            · exact absurd ⟨y, hy, h'⟩ hB'
            · omega
      obtain ⟨x, hx⟩ := List.exists_mem_of_ne_nil q hne
      obtain ⟨i, hi, hle⟩ := hmin (x + 1) ⟨x, hx, by omega⟩
      have hil := l.lt i hi
      have hio : p.ops[i]? = some p.ops[i] := Array.getElem?_eq_getElem hil
      have : i ∈ Region.ready .any p.ops L := mem_ready.2 ⟨(l.mem i hil).2 hi, _, hio, fun e he hb => by
        have hlt := g.edges i _ hio e he hb
        have hnq : e.on ∉ q := fun hm => by have := hle _ hm; omega
        cases hL : L.getD e.on false with
        | true => rfl
        | false =>
          have hsz : e.on < L.size := by rw [l.size]; omega
          have : L.getD e.on true = false := by
            simp [hsz] at hL ⊢; exact hL
          exact absurd ((l.mem e.on (by omega)).1 this) hnq⟩
      rw [hr] at this
      cases this
    · obtain ⟨h0, o, ho, hall⟩ := mem_ready.1 hi
      have hil : i < p.ops.size := (Array.getElem?_eq_some_iff.1 ho).1
      have hiq := (l.mem i hil).1 h0
      have hnq : ∀ e ∈ o.after, Region.binds .any e = true → e.on ∉ q := fun e he hb hm => by
        have h1 := hall e he hb
        have h2 := (l.mem e.on (l.lt _ hm)).2 hm
        have hsz : e.on < L.size := by rw [l.size]; exact l.lt _ hm
        simp [hsz] at h1 h2
        rw [h1] at h2; cases h2
      obtain ⟨q1, q2, rfl⟩ := List.append_of_mem hiq
      have hanc : ∀ x, x < p.ops.size → (p.m i).testBit x = true → x ∉ q1 ++ i :: q2 := g.come l (i + 1) i o (by omega) ho hnq
      have hopG := swap ho g.nsel q2 q1 f w l.pairs (fun x hx => by
        cases hb : (p.m i).testBit x with
        | false => rfl
        | true => exact absurd (by simp [hx]) (hanc x (l.lt x (by simp [hx])) hb)) ⟨by
          refine countP_le_of _ fun x hx hb => ?_
          have := hanc x (heffs x hx) hb
          simpa using this, by
          refine countP_le_of _ fun x hx hb => ?_
          cases hb' : (p.m x).testBit i with
          | false => rfl
          | true =>
            exfalso
            have hxl := heffs x hx
            have hxo : p.ops[x]? = some p.ops[x] := Array.getElem?_eq_getElem hxl
            have hxq : x ∉ q1 ++ i :: q2 := by simpa using hb
            exact g.come l (x + 1) x _ (by omega) hxo (l.closed x _ hxo hxq) i hil hb' hiq⟩ h
      have hnd := l.nodup
      have hi1 : i ∉ q1 ++ q2 := by
        rw [List.nodup_append] at hnd
        obtain ⟨_, n2, n3⟩ := hnd
        rw [List.nodup_cons] at n2
        intro hm
        rcases List.mem_append.1 hm with h1 | h1
        · exact n3 i h1 i (by simp) rfl
        · exact n2.1 h1
      have l' : Left p (q1 ++ q2) (L.setIfInBounds i true) := by
        refine ⟨fun j hj => ?_, by simp [l.size], fun j hj => l.lt j (by rcases List.mem_append.1 hj with h | h <;> simp [h]), fun j oj hoj hjq e he hb hm => ?_, ?_, ?_⟩
        · by_cases hji : j = i
          · subst hji
            have hsz : j < L.size := by rw [l.size]; exact hj
            constructor
            · intro hc; simp [hsz] at hc
            · intro hc; exact absurd hc hi1
          · rw [getD_set_ne true (fun e => hji e.symm), l.mem j hj]
            simp [hji]
        · by_cases hji : j = i
          · subst hji
            rw [ho] at hoj; cases hoj
            exact hnq e he hb (by rcases List.mem_append.1 hm with h | h <;> simp [h])
          · refine l.closed j oj hoj ?_ e he hb (by rcases List.mem_append.1 hm with h | h <;> simp [h])
            intro hc
            apply hjq
            rcases List.mem_append.1 hc with h | h
            · simp [h]
            · rcases List.mem_cons.1 h with h | h
              · exact absurd h hji
              · simp [h]
        · refine hnd.sublist ?_
          exact List.Sublist.append (List.Sublist.refl _) (List.sublist_cons_self _ _)
        · have : ∀ (a : List Nat), p.pairs (a ++ i :: q2) = true → p.pairs (a ++ q2) = true := by
            intro a
            induction a with
            | nil => intro h; simp only [List.nil_append, Pl.pairs, Bool.and_eq_true] at h ⊢; exact h.2
            | cons x a ih =>
              intro h
              simp only [List.cons_append, Pl.pairs, Bool.and_eq_true, List.all_eq_true] at h ⊢
              exact ⟨fun y hy => h.1 y (by rcases List.mem_append.1 hy with h | h <;> simp [h]), ih h.2⟩
          exact this q1 l.pairs
      have ih := fun f' w' hd => any_of_dq g hok heffs N (q1 ++ q2) (by simp at hq ⊢; omega) (L.setIfInBounds i true) f' w' l' hd
      have hoo := okOps_get hok ho
      unfold wpOp
      simp only [ho]
      rw [wanted_fr hok]
      unfold opG at hopG
      split
      · rename_i hw
        rw [if_pos hw] at hopG
        refine .inl ?_
        unfold Oper.wp
        rw [exec_fr hoo]
        exact upon_of_aft hoo (fun f' w' hd => ih f' w' hd) (fun c a w hd hc => ⟨hd, hc⟩) hopG
      · rename_i hw
        rw [if_neg hw] at hopG
        rw [fr_put (okO_parts hoo).2.1]
        exact ih _ _ hopG

/-- THE RULE: the order 'plan' stands for all. -/
theorem W_draw {id : Nat} {ops : Array Oper} {f : Fm} {w : World} (hm : P.follows .mixedOrders = true) (t effs plan : List Nat) (S : Nat → World → Prop)
    (hc : (okOps n ops && Pl.ok ⟨ops, t, effs⟩ plan && effs.all fun x => decide (x < ops.size)) = true)
    (h : dq P ⟨ops, t, effs⟩ S (Q .normal) Qp plan f { w with drawn := w.drawn + 1 }) : W P n ds (.region id ops true) Q Qp f w := by
  simp only [Bool.and_eq_true, Pl.ok, List.all_eq_true, decide_eq_true_eq] at hc
  obtain ⟨⟨hok, ⟨⟨⟨⟨⟨⟨c1, c2⟩, c3⟩, c4⟩, c5⟩, c6⟩, c7⟩, c8⟩, heff⟩ := hc
  unfold W
  refine wp_region_any hm ?_
  have g : Good (⟨ops, t, effs⟩ : Pl) := by
    refine ⟨fun j o ho e he hb => ?_, fun j o ho x hx hbit => ?_, c8⟩
    · have hj : j < ops.size := (Array.getElem?_eq_some_iff.1 ho).1
      have := c5 j (List.mem_range.2 hj)
      have ho' : ops[j]? = some o := ho
      simp only [Pl.edges, ho'] at this
      have := (Array.all_eq_true_iff_forall_mem.1 this) e he
      simpa [hb] using this
    · have hj : j < ops.size := (Array.getElem?_eq_some_iff.1 ho).1
      have := c6 j (List.mem_range.2 hj)
      have ho' : ops[j]? = some o := ho
      simp only [Pl.cert, ho', List.all_eq_true] at this
      have := this x (List.mem_range.2 hx)
      rw [hbit] at this
      simp only [Bool.not_true, Bool.false_or] at this
      obtain ⟨e, he, hb⟩ := Array.any_eq_true'.1 this
      simp only [Bool.and_eq_true, Bool.or_eq_true, beq_iff_eq] at hb
      exact ⟨e, he, hb.1, hb.2⟩
  have l : Left (⟨ops, t, effs⟩ : Pl) plan (Array.replicate ops.size false) := by
    refine ⟨fun i hi => ?_, by simp, fun i hi => c2 i hi, fun j o ho hj => ?_, c3, c7⟩
    · have hi' : i < ops.size := hi
      have := c1 i (List.mem_range.2 hi')
      constructor
      · intro _; simpa using this
      · intro _; simp [hi']
    · have hj' : j < ops.size := (Array.getElem?_eq_some_iff.1 ho).1
      have := c1 j (List.mem_range.2 hj')
      exact absurd (by simpa using this) hj
  exact any_of_dq (p := ⟨ops, t, effs⟩) g hok heff ops.size plan c4 _ f _ l h

end
end Go.Eng
