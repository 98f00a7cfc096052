/-
  Layer 15, plain: no two traces of one key; the last that came is found. No program in sight.
-/
import Derived.Test.YtddhdoncjfgfnaaApart
namespace Go.Proofs.Ytddhdoncjfgfnaa
open Go.Eng

/-- No two of one key; ids are those that were given. -/
structure Inv (s : C15) : Prop where
  ok : Ok s
  keys : (s.order.map (keyOf s)).Nodup
  old : ∀ r ∈ s.held.1, r.1 ≤ s.last
theorem keyOf_gone {s : C15} {id x : Int} (h : x ≠ id) : keyOf (goneK s id) x = keyOf s x := by
  simp only [keyOf, goneK]
  rw [mget_mdel_ne h]
theorem mem_rest {id x : Int} {xs : List Int} : x ∈ rest id xs ↔ x ∈ xs ∧ x ≠ id := by
  simp [rest]
theorem rest_map {s : C15} (id : Int) : (rest id s.order).map (keyOf (goneK s id)) = (rest id s.order).map (keyOf s) := by
  refine List.map_congr_left fun x hx => keyOf_gone (mem_rest.1 hx).2
theorem Inv.gone {s : C15} (h : Inv s) (id : Int) : Inv (goneK s id) := by
  refine ⟨h.ok.gone id, ?_, fun r hr => h.old r (List.mem_filter.1 hr).1⟩
  show ((rest id s.order).map (keyOf (goneK s id))).Nodup
  rw [rest_map]
  exact h.keys.sublist (List.filter_sublist.map _)
theorem Inv.pick {s : C15} (h : Inv s) : Inv (pickS s) := ⟨h.ok.pick, h.keys, h.old⟩
theorem Inv.ev1 {s : C15} (h : Inv s) : Inv (Proofs.Ytddhdoncjfgfnaa.ev1 s) := by
  unfold Proofs.Ytddhdoncjfgfnaa.ev1
  split
  · exact h.pick.gone _
  · exact h
theorem Inv.drop {s : C15} (h : Inv s) (k : Ky) : Inv (dropK s k) := by
  unfold dropK
  split
  · exact h.gone _
  · exact h
/-- What find finds. -/
theorem find_some {s : C15} (h : Ok s) {k : Ky} {id : Int} (hf : s.order.find? (hasKey s k) = some id) : findK s k = id ∧ 0 < id ∧ id ∈ s.order ∧ keyOf s id = k := by
  have hm := List.mem_of_find?_eq_some hf
  have hk := List.find?_some hf
  exact ⟨by simp [findK, hf], (h.ids id hm).1, hm, of_decide_eq_true hk⟩
theorem find_none {s : C15} {k : Ky} (hf : s.order.find? (hasKey s k) = none) : findK s k = 0 ∧ ∀ id ∈ s.order, keyOf s id ≠ k := by
  rw [List.find?_eq_none] at hf
  refine ⟨?_, fun id hid e => hf id hid (decide_eq_true e)⟩
  have : s.order.find? (hasKey s k) = none := by rw [List.find?_eq_none]; exact hf
  simp [findK, this]
theorem find_cases {s : C15} (h : Ok s) (k : Ky) : (findK s k = 0 ∧ ∀ id ∈ s.order, keyOf s id ≠ k) ∨ (0 < findK s k ∧ findK s k ∈ s.order ∧ keyOf s (findK s k) = k) := by
  cases hf : s.order.find? (hasKey s k) with
  | none => exact .inl (find_none hf)
  | some id =>
    obtain ⟨h1, h2, h3, h4⟩ := find_some h hf
    rw [h1]
    exact .inr ⟨h2, h3, h4⟩
theorem key_inj {s : C15} (h : Inv s) {a b : Int} (ha : a ∈ s.order) (hb : b ∈ s.order) (e : keyOf s a = keyOf s b) : a = b := by
  obtain ⟨i, hi⟩ := List.mem_iff_getElem?.1 ha
  obtain ⟨j, hj⟩ := List.mem_iff_getElem?.1 hb
  obtain ⟨hil, rfl⟩ := List.getElem?_eq_some_iff.1 hi
  obtain ⟨hjl, rfl⟩ := List.getElem?_eq_some_iff.1 hj
  have h1 := List.pairwise_iff_getElem.1 h.keys
  rcases Nat.lt_trichotomy i j with hij | hij | hij
  · exact absurd (by rw [List.getElem_map, List.getElem_map]; exact e) (h1 i j (by simpa using hil) (by simpa using hjl) hij)
  · subst hij; rfl
  · exact absurd (by rw [List.getElem_map, List.getElem_map]; exact e.symm) (h1 j i (by simpa using hjl) (by simpa using hil) hij)
theorem drop_none {s : C15} (h : Inv s) (k : Ky) : ∀ id ∈ (dropK s k).order, keyOf (dropK s k) id ≠ k := by
  unfold dropK
  split
  · rename_i hp
    intro id hid
    have hid : id ∈ rest (findK s k) s.order := hid
    obtain ⟨h1, h2⟩ := mem_rest.1 hid
    rw [keyOf_gone h2]
    rcases find_cases h.ok k with ⟨h3, _⟩ | ⟨_, h4, h5⟩
    · omega
    · exact fun e => h2 (key_inj h h1 h4 (by rw [e, h5]))
  · rename_i hp
    rcases find_cases h.ok k with ⟨_, h4⟩ | ⟨h3, _⟩
    · exact h4
    · exact absurd h3 hp
theorem ev_none {s : C15} {k : Ky} (h : ∀ id ∈ s.order, keyOf s id ≠ k) : ∀ id ∈ (ev1 s).order, keyOf (ev1 s) id ≠ k := by
  unfold ev1
  split
  · intro id hid
    obtain ⟨h1, h2⟩ := mem_rest.1 (show id ∈ rest _ s.order from hid)
    unfold evK
    rw [keyOf_gone h2]
    exact h id h1
  · exact h
theorem keyOf_add {s : C15} {y : LT} {x : Int} (h : x ≠ s.last + 1) : keyOf (addK s y) x = keyOf s x := by
  simp only [keyOf, addK]
  rw [mget_mput_ne h]
theorem at_add {s : C15} (h : Ok s) (y : LT) : at15 (addK s y) (s.last + 1) = y := by
  simp only [at15, addK]
  rw [mget_mput_self h.h.keys]
  rfl
theorem keyOf_add_self {s : C15} (h : Ok s) (y : LT) : keyOf (addK s y) (s.last + 1) = y.key := by
  show (at15 (addK s y) (s.last + 1)).key = y.key
  rw [at_add h]
theorem add_map {s : C15} (h : Ok s) (y : LT) : (addK s y).order.map (keyOf (addK s y)) = s.order.map (keyOf s) ++ [y.key] := by
  show (s.order ++ [s.last + 1]).map (keyOf (addK s y)) = _
  rw [List.map_append, List.map_cons, List.map_nil, keyOf_add_self h]
  congr 1
  refine List.map_congr_left fun x hx => keyOf_add ?_
  have := (h.ids x hx).2
  omega
theorem Inv.add {s : C15} (h : Inv s) (hr : (s.order.length : Int) < s.limit) {y : LT} (hn : ∀ id ∈ s.order, keyOf s id ≠ y.key) : Inv (addK s y) := by
  refine ⟨h.ok.add hr y, ?_, fun r hr => ?_⟩
  · rw [add_map h.ok, List.nodup_append]
    refine ⟨h.keys, by simp, fun a ha b hb e => ?_⟩
    obtain ⟨id, hid, rfl⟩ := List.mem_map.1 ha
    simp only [List.mem_singleton] at hb
    exact hn id hid (by rw [e, hb])
  · show r.1 ≤ s.last + 1
    rcases mem_mput hr with ⟨h1, _⟩ | ⟨h1, _⟩
    · have := h.old r h1; omega
    · omega
theorem find_add {s : C15} (h : Ok s) {y : LT} (hn : ∀ id ∈ s.order, keyOf s id ≠ y.key) : findK (addK s y) y.key = s.last + 1 := by
  have hno : s.order.find? (hasKey (addK s y) y.key) = none := by
    rw [List.find?_eq_none]
    intro id hid
    have := (h.ids id hid).2
    simp only [hasKey, decide_eq_true_eq]
    rw [keyOf_add (by omega)]
    exact hn id hid
  unfold findK
  show ((s.order ++ [s.last + 1]).find? (hasKey (addK s y) y.key)).getD 0 = _
  rw [List.find?_append, hno, Option.none_or]
  have : hasKey (addK s y) y.key (s.last + 1) = true := by simp only [hasKey, decide_eq_true_eq]; exact keyOf_add_self h y
  simp [this]
theorem Inv.new (limit : Int) (picks : List Int) (hp : picks.length ≤ 17592186043904) : Inv (newK limit picks) := ⟨Ok.new limit picks hp, by simp [newK], by simp [newK]⟩
/-- What Put comes to. -/
theorem put_inv {s : C15} (h : Inv s) (hl : s.limit ≠ 0) (y : LT) : Inv (putS s y) ∧ findK (putS s y) y.key = s.last + 1 ∧ at15 (putS s y) (s.last + 1) = y := by
  have h1 := h.drop y.key
  have h2 := drop_none h y.key
  have h3 := h1.ev1
  have h4 := ev_none h2
  have hr := ev1_room h1.ok (by rw [(drop_last s y.key).2]; exact hl)
  have e := (ev1_last (dropK s y.key)).1.trans (drop_last s y.key).1
  have hr2 : ((ev1 (dropK s y.key)).order.length : Int) < (ev1 (dropK s y.key)).limit := by rw [(ev1_last _).2]; exact hr
  rw [putS, if_neg hl]
  refine ⟨h3.add hr2 h4, ?_, ?_⟩
  · rw [find_add h3.ok h4, e]
  · have := at_add h3.ok y
    rwa [e] at this

end Go.Proofs.Ytddhdoncjfgfnaa
