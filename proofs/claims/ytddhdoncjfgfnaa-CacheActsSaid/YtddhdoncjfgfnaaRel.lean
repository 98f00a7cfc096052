/-
  Layer 15, plain: the program's cache and the document's answer alike. No program in sight.
-/
import Derived.Test.YtddhdoncjfgfnaaRefD
namespace Go.Proofs.Ytddhdoncjfgfnaa
open Go.Eng

/-! ### Notes as a map -/
def nget (ns : List Nt) (id op : Int) : Option Nt := ns.find? (ntP id op)
def nto (n : Nt) : Option Int := if n.to = 0 then none else some n.to
def nkeys (ns : List Nt) : List (Int × Int) := ns.map fun n => (n.id, n.op)
theorem nget_gone (g id op : Int) : ∀ ns : List Nt, nget (ns.filterMap (keepN g)) id op = if id = g then none else (nget ns id op).map (fix g)
  | [] => by simp [nget]
  | n :: ns => by
    have ih := nget_gone g id op ns
    unfold nget at ih ⊢
    by_cases hg : n.id = g
    · have hk : keepN g n = none := by rw [keepN, if_pos hg]
      rw [List.filterMap_cons_none hk, ih]
      by_cases h : id = g
      · rw [if_pos h, if_pos h]
      · rw [if_neg h, if_neg h, List.find?_cons_of_neg]
        simp only [ntP, Bool.and_eq_true, beq_iff_eq]
        intro hh
        exact h (by rw [← hh.1, hg])
    · have hk : keepN g n = some (fix g n) := by rw [keepN, if_neg hg]
      rw [List.filterMap_cons_some hk]
      have hp : ntP id op (fix g n) = ntP id op n := by
        unfold fix
        split <;> rfl
      cases h : ntP id op n
      · rw [List.find?_cons_of_neg (by rw [hp, h]; decide), List.find?_cons_of_neg (by rw [h]; decide), ih]
      · rw [List.find?_cons_of_pos (by rw [hp, h]), List.find?_cons_of_pos (by rw [h])]
        have : n.id = id := by simp only [ntP, Bool.and_eq_true, beq_iff_eq] at h; exact h.1
        rw [if_neg (by rw [← this]; exact hg)]
        rfl
theorem nget_none {ns : List Nt} {id op : Int} (h : (id, op) ∉ nkeys ns) : nget ns id op = none := by
  unfold nget
  rw [List.find?_eq_none]
  intro n hn hp
  simp only [ntP, Bool.and_eq_true, beq_iff_eq] at hp
  exact h (List.mem_map.2 ⟨n, hn, by rw [hp.1, hp.2]⟩)
theorem linked_eq (id op : Int) : ∀ {ns : List Nt}, (nkeys ns).Nodup → (ns.find? (ntL id op)).map (·.to) = (nget ns id op).bind nto
  | [], _ => rfl
  | n :: ns, h => by
    simp only [nkeys, List.map_cons, List.nodup_cons] at h
    have ih := linked_eq id op (ns := ns) h.2
    cases hp : ntP id op n
    · have hl : ntL id op n = false := by
        unfold ntL
        unfold ntP at hp
        rw [hp]
        rfl
      unfold nget at ih ⊢
      rw [List.find?_cons_of_neg (by rw [hl]; decide), List.find?_cons_of_neg (by rw [hp]; decide), ih]
    · have hk : (n.id, n.op) = (id, op) := by
        simp only [ntP, Bool.and_eq_true, beq_iff_eq] at hp
        rw [hp.1, hp.2]
      have hn : nget ns id op = none := nget_none (by rw [← hk]; exact h.1)
      rw [hn] at ih
      have hl : ntL id op n = (n.to != 0) := by
        unfold ntL
        unfold ntP at hp
        rw [hp]
        rfl
      unfold nget
      rw [List.find?_cons_of_pos (p := ntP id op) (by rw [hp])]
      by_cases ht : n.to = 0
      · rw [List.find?_cons_of_neg (p := ntL id op) (by rw [hl, ht]; decide), ih]
        simp [nto, ht]
      · rw [List.find?_cons_of_pos (p := ntL id op) (by rw [hl]; simpa using ht)]
        simp [nto, ht]
/-- A place's note changed. -/
def updN (id op : Int) (g : Nt → Nt) : List Nt → List Nt
  | [] => [g ⟨id, op, 0, 0⟩]
  | n :: ns => if ntP id op n then g n :: ns else n :: updN id op g ns
theorem set_upd (r : R15) (id op : Int) (g : Nt → Nt) : (setR r id op g).notes = updN id op g r.notes := by
  have key : ∀ ns : List Nt, (match ns.findIdx? (ntP id op) with | some i => ns.modify i g | none => ns ++ [g ⟨id, op, 0, 0⟩]) = updN id op g ns := by
    intro ns
    induction ns with
    | nil => rfl
    | cons n ns ih =>
      rw [List.findIdx?_cons]
      cases h : ntP id op n
      · simp only [Bool.false_eq_true, if_false, updN, h]
        cases hf : ns.findIdx? (ntP id op) with
        | none => rw [hf] at ih; simp only [Option.map_none, List.cons_append]; rw [← ih]
        | some i => rw [hf] at ih; simp only [Option.map_some]; rw [← ih]; rfl
      · simp only [if_true, updN, h]
        rfl
  rw [← key]
  unfold setR noteR
  cases h : r.notes.findIdx? (ntP id op) with
  | some i => rfl
  | none =>
    show (r.notes ++ [(⟨id, op, 0, 0⟩ : Nt)]).modify r.notes.length g = _
    rw [modify_set (n := ⟨id, op, 0, 0⟩) (by simp), List.set_append_right _ _ (Nat.le_refl _)]
    simp
theorem nget_upd {id op : Int} {g : Nt → Nt} (hg : ∀ n, (g n).id = n.id ∧ (g n).op = n.op) (id' op' : Int) : ∀ ns : List Nt, nget (updN id op g ns) id' op' = if id' = id ∧ op' = op then some (g ((nget ns id op).getD ⟨id, op, 0, 0⟩)) else nget ns id' op'
  | [] => by
    unfold nget updN
    by_cases h : id' = id ∧ op' = op
    · rw [if_pos h, List.find?_cons_of_pos (by simp [ntP, hg, h.1, h.2])]
      rfl
    · rw [if_neg h, List.find?_cons_of_neg (by simp only [ntP, hg, Bool.and_eq_true, beq_iff_eq]; intro hh; exact h ⟨hh.1.symm, hh.2.symm⟩)]
  | n :: ns => by
    have ih := nget_upd (id := id) (op := op) hg id' op' ns
    unfold nget at ih ⊢
    have hp : ∀ a b, ntP a b (g n) = ntP a b n := fun a b => by simp [ntP, hg]
    cases h0 : ntP id op n
    · simp only [updN, h0, Bool.false_eq_true, if_false]
      rw [List.find?_cons_of_neg (l := ns) (a := n) (p := ntP id op) (by rw [h0]; decide)]
      cases h1 : ntP id' op' n
      · rw [List.find?_cons_of_neg (by rw [h1]; decide), List.find?_cons_of_neg (by rw [h1]; decide), ih]
      · rw [List.find?_cons_of_pos (by rw [h1]), List.find?_cons_of_pos (by rw [h1]), if_neg]
        intro hh
        rw [hh.1, hh.2, h0] at h1
        cases h1
    · simp only [updN, h0, if_true]
      rw [List.find?_cons_of_pos (l := ns) (a := n) (p := ntP id op) (by rw [h0])]
      simp only [ntP, Bool.and_eq_true, beq_iff_eq] at h0
      by_cases h : id' = id ∧ op' = op
      · rw [if_pos h, List.find?_cons_of_pos (by rw [hp]; simp [ntP, h0, h])]
        rfl
      · rw [if_neg h, List.find?_cons_of_neg (by rw [hp]; simp only [ntP, Bool.and_eq_true, beq_iff_eq]; intro hh; exact h ⟨by rw [← hh.1, h0.1], by rw [← hh.2, h0.2]⟩),
          List.find?_cons_of_neg (by simp only [ntP, Bool.and_eq_true, beq_iff_eq]; intro hh; exact h ⟨by rw [← hh.1, h0.1], by rw [← hh.2, h0.2]⟩)]
theorem keys_upd {id op : Int} {g : Nt → Nt} (hg : ∀ n, (g n).id = n.id ∧ (g n).op = n.op) : ∀ {ns : List Nt}, (nkeys ns).Nodup → (nkeys (updN id op g ns)).Nodup ∧ ∀ k ∈ nkeys (updN id op g ns), k ∈ nkeys ns ∨ k = (id, op)
  | [], _ => by
    refine ⟨by simp [nkeys, updN], fun k hk => ?_⟩
    simp only [nkeys, updN, List.map_cons, List.map_nil, List.mem_singleton, hg] at hk
    exact .inr hk
  | n :: ns, h => by
    simp only [nkeys, List.map_cons, List.nodup_cons] at h
    obtain ⟨ih1, ih2⟩ := keys_upd hg (ns := ns) h.2
    cases h0 : ntP id op n
    · simp only [updN, h0, Bool.false_eq_true, if_false, nkeys, List.map_cons, List.nodup_cons]
      refine ⟨⟨fun hk => ?_, ih1⟩, fun k hk => ?_⟩
      · rcases ih2 _ hk with h2 | h2
        · exact h.1 h2
        · simp only [Prod.mk.injEq] at h2
          simp [ntP, h2.1, h2.2] at h0
      · rcases List.mem_cons.1 hk with rfl | hk
        · exact .inl (by simp)
        · rcases ih2 k hk with h2 | h2
          · exact .inl (List.mem_cons_of_mem _ h2)
          · exact .inr h2
    · simp only [updN, h0, if_true, nkeys, List.map_cons, List.nodup_cons, hg]
      exact ⟨h, fun k hk => .inl hk⟩
theorem keys_gone (g : Int) {ns : List Nt} (h : (nkeys ns).Nodup) : (nkeys (ns.filterMap (keepN g))).Nodup := by
  have e : nkeys (ns.filterMap (keepN g)) = (nkeys ns).filter fun k => !(k.1 == g) := by
    clear h
    induction ns with
    | nil => rfl
    | cons n ns ih =>
      unfold nkeys at ih ⊢
      by_cases hg : n.id = g
      · rw [List.filterMap_cons_none (by rw [keepN, if_pos hg]), ih, List.map_cons, List.filter_cons_of_neg (by simp [hg])]
      · rw [List.filterMap_cons_some (b := fix g n) (by rw [keepN, if_neg hg]), List.map_cons, ih, List.map_cons, List.filter_cons_of_pos (by simp [hg])]
        congr 1
        unfold fix
        split <;> rfl
  rw [e]
  exact h.sublist List.filter_sublist

/-! ### Maps with entries struck out -/
theorem mget_filterK {β : Type} {m : List (V2 × β × Nat)} (q : V2 → Bool) (k : V2) : mget (m.filter fun r => !(q r.1)) k = if q k then none else mget m k := by
  unfold mget
  rw [List.find?_filter]
  split
  · rename_i h
    rw [List.find?_eq_none.2]
    · rfl
    · intro r _ hr
      have hr : (!(q r.1)) = true ∧ r.1 = k := by simpa using hr
      rw [hr.2, h] at hr
      cases hr.1
  · rename_i h
    congr 1
    congr 1
    funext r
    by_cases hr : r.1 = k
    · simp [hr, h]
    · simp [hr]
theorem mget_filterV {m : List (V2 × Int × Nat)} (hnd : (mkeys m).Nodup) (q : V2 × Int × Nat → Bool) (q' : V2 → Int → Bool) (hq : ∀ r, q r = q' r.1 r.2.1) (k : V2) : mget (m.filter fun r => !(q r)) k = (mget m k).bind fun v => if q' k v then none else some v := by
  have hnd2 : (mkeys (m.filter fun r => !(q r))).Nodup := hnd.sublist (List.filter_sublist.map _)
  cases h : mget m k with
  | none =>
    rw [mget_eq_none] at h
    rw [Option.bind_none, mget_eq_none]
    intro r hr
    exact h r (List.mem_filter.1 hr).1
  | some v =>
    obtain ⟨n, hn⟩ := (mget_mem_iff hnd).1 h
    rw [Option.bind_some]
    split
    · rename_i hb
      rw [mget_eq_none]
      intro r hr he
      obtain ⟨h1, h2⟩ := List.mem_filter.1 hr
      have := key_uniq hnd h1 hn he
      subst this
      rw [hq, hb] at h2
      cases h2
    · rename_i hb
      rw [mget_mem_iff hnd2]
      exact ⟨n, List.mem_filter.2 ⟨hn, by rw [hq]; simpa using hb⟩⟩

/-- The two caches are alike. -/
structure RelC (s : C15) (r : R15) : Prop where
  inv : Inv s
  ord : s.order = r.rows.map (·.1)
  tr : ∀ p ∈ r.rows, (at15 s p.1).t = p.2.t ∧ (mget s.held.1 p.1).isSome = true
  hel : ∀ id, (mget s.held.1 id).isSome = true → id ∈ s.order
  fails : ∀ id op, (mget s.fails.1 (v2 id op)).getD 0 = ((nget r.notes id op).map (·.fails)).getD 0
  links : ∀ id op, mget s.links.1 (v2 id op) = (nget r.notes id op).bind nto
  uniq : (nkeys r.notes).Nodup
  lim : s.limit = r.limit
  picks : s.picks = r.picks.drop r.used
  used : r.used ≤ r.picks.length
  last : s.last = r.last
  top : s.most = r.top
theorem RelC.new (limit : Int) (picks : List Int) (hp : picks.length ≤ 17592186043904) : RelC (newK limit picks) (newR limit picks) :=
  ⟨Inv.new limit picks hp, rfl, by simp [newR], by simp [newK, mget], by simp [newK, newR, mget, nget], by simp [newK, newR, mget, nget], by simp [newR, nkeys], rfl, rfl, Nat.zero_le _, rfl, rfl⟩
theorem RelC.len {s : C15} {r : R15} (h : RelC s r) : s.order.length = r.rows.length := by rw [h.ord, List.length_map]
theorem RelC.key {s : C15} {r : R15} (h : RelC s r) {p : Int × LT} (hp : p ∈ r.rows) : keyOf s p.1 = p.2.key := (LT.t_eq (h.tr p hp).1).1
theorem RelC.held {s : C15} {r : R15} (h : RelC s r) (id : Int) : (mget s.held.1 id).isSome = rheld r id := by
  cases hh : (mget s.held.1 id).isSome
  · symm
    unfold rheld
    rw [List.any_eq_false]
    intro p hp he
    have := (h.tr p hp).2
    rw [show p.1 = id from by simpa using he, hh] at this
    cases this
  · symm
    have := h.hel id hh
    rw [h.ord] at this
    obtain ⟨p, hp, rfl⟩ := List.mem_map.1 this
    unfold rheld
    rw [List.any_eq_true]
    exact ⟨p, hp, by simp⟩
/-- What is found. -/
theorem RelC.find {s : C15} {r : R15} (h : RelC s r) (k : Ky) : (findK s k = 0 ∧ rfind r k = -1 ∧ dropK s k = s ∧ dropR r k = r) ∨ ∃ (i : Nat) (p : Int × LT), 0 < findK s k ∧ findK s k = p.1 ∧ rfind r k = i ∧ r.rows[i]? = some p ∧ dropK s k = goneK s p.1 ∧ dropR r k = goneR r i p.1 := by
  have hkey : ∀ p ∈ r.rows, hasKey s k p.1 = rowP k p := fun p hp => by
    unfold hasKey rowP
    rw [h.key hp]
  rcases rfind_cases r k with ⟨h1, h2, h3⟩ | ⟨i, p, h1, h2, h3, h4⟩
  · have hno : ∀ id ∈ s.order, hasKey s k id = false := by
      intro id hid
      rw [h.ord] at hid
      obtain ⟨p, hp, rfl⟩ := List.mem_map.1 hid
      rw [hkey p hp]
      exact List.findIdx?_eq_none_iff.1 h3 p hp
    have hf : findK s k = 0 := by
      unfold findK
      rw [List.find?_eq_none.2 fun x hx => by rw [hno x hx]; decide]
      rfl
    exact .inl ⟨hf, h1, by rw [dropK, hf, if_neg (by decide)], h2⟩
  · have hpm := List.mem_of_getElem? h2
    have hid : p.1 ∈ s.order := by rw [h.ord]; exact List.mem_map.2 ⟨p, hpm, rfl⟩
    have hk : hasKey s k p.1 = true := by
      rw [hkey p hpm]
      obtain ⟨hi, h5, _⟩ := List.findIdx?_eq_some_iff_getElem.1 h4
      rw [← (List.getElem?_eq_some_iff.1 h2).2]
      exact h5
    have hf : findK s k = p.1 ∧ 0 < findK s k := by
      rcases find_cases h.inv.ok k with ⟨_, h6⟩ | ⟨h5, h6, h7⟩
      · exact absurd (of_decide_eq_true hk) (h6 p.1 hid)
      · exact ⟨key_inj h.inv h6 hid (by rw [h7]; exact (of_decide_eq_true hk).symm), h5⟩
    exact .inr ⟨i, p, hf.2, hf.1, h1, h2, by rw [dropK, if_pos hf.2, hf.1], h3⟩
theorem rest_at {xs : List Int} (hnd : xs.Nodup) {i : Nat} {a : Int} (h : xs[i]? = some a) : rest a xs = xs.take i ++ xs.drop (i + 1) := by
  obtain ⟨hi, he⟩ := List.getElem?_eq_some_iff.1 h
  have hsp : xs = xs.take i ++ a :: xs.drop (i + 1) := by
    conv => lhs; rw [← List.take_append_drop i xs, List.drop_eq_getElem_cons hi, he]
  have hn : (xs.take i ++ a :: xs.drop (i + 1)).Nodup := by rw [← hsp]; exact hnd
  rw [List.nodup_append] at hn
  obtain ⟨_, h2, h3⟩ := hn
  rw [List.nodup_cons] at h2
  conv => lhs; rw [hsp]
  unfold rest
  rw [List.filter_append, List.filter_cons_of_neg (by simp)]
  congr 1
  · rw [List.filter_eq_self]
    intro x hx
    have := h3 x hx a (by simp)
    simpa using this
  · rw [List.filter_eq_self]
    intro x hx
    simp only [Bool.not_eq_true', beq_eq_false_iff_ne]
    intro e
    exact h2.1 (by rw [← e]; exact hx)
theorem fix_nto (g : Int) (n : Nt) : nto (fix g n) = (nto n).bind fun v => if v = g then none else some v := by
  unfold nto fix
  by_cases h : n.to = g
  · rw [if_pos h]
    by_cases h0 : n.to = 0
    · simp [h0]
    · simp [h]
      rw [← h]
      simp [h0]
  · rw [if_neg h]
    by_cases h0 : n.to = 0
    · simp [h0]
    · simp [h0, h]
theorem RelC.gone {s : C15} {r : R15} (h : RelC s r) {i : Nat} {p : Int × LT} (hp : r.rows[i]? = some p) : RelC (goneK s p.1) (goneR r i p.1) := by
  have hod : s.order[i]? = some p.1 := by rw [h.ord, List.getElem?_map, hp]; rfl
  have hrest := rest_at h.inv.ok.nd hod
  have hmem : ∀ q ∈ (goneR r i p.1).rows, q ∈ r.rows ∧ q.1 ≠ p.1 := by
    intro q hq
    have h1 : q ∈ r.rows := by
      rcases List.mem_append.1 hq with hq | hq
      · exact List.mem_of_mem_take hq
      · exact List.mem_of_mem_drop hq
    refine ⟨h1, ?_⟩
    have h2 : q.1 ∈ rest p.1 s.order := by
      rw [hrest, h.ord, ← List.map_take, ← List.map_drop, ← List.map_append]
      exact List.mem_map.2 ⟨q, hq, rfl⟩
    exact (mem_rest.1 h2).2
  refine ⟨h.inv.gone p.1, ?_, fun q hq => ?_, fun id hid => ?_, fun id op => ?_, fun id op => ?_, keys_gone _ h.uniq, h.lim, h.picks, h.used, h.last, h.top⟩
  · show rest p.1 s.order = _
    rw [hrest, h.ord, ← List.map_take, ← List.map_drop, ← List.map_append]
    rfl
  · obtain ⟨h1, h2⟩ := hmem q hq
    obtain ⟨h3, h4⟩ := h.tr q h1
    simp only [at15, goneK] at h3 ⊢
    rw [mget_mdel_ne h2]
    exact ⟨h3, h4⟩
  · have hne : id ≠ p.1 := by
      intro e
      rw [e] at hid
      simp only [goneK] at hid
      rw [mget_mdel_self] at hid
      cases hid
    simp only [goneK] at hid
    rw [mget_mdel_ne hne] at hid
    exact mem_rest.2 ⟨h.hel id hid, hne⟩
  · have h1 := mget_filterK (m := s.fails.1) (fun k => k[0] == p.1) (v2 id op)
    have h2 := h.fails id op
    show (mget (s.fails.1.filter fun r => !(badF p.1 r)) (v2 id op)).getD 0 = _
    rw [show (s.fails.1.filter fun r => !(badF p.1 r)) = s.fails.1.filter fun r => !(r.1[0] == p.1) from rfl, h1]
    show _ = ((nget (r.notes.filterMap (keepN p.1)) id op).map (·.fails)).getD 0
    rw [nget_gone]
    by_cases hid : id = p.1
    · rw [if_pos (by simp [v2, hid]), if_pos hid]
      rfl
    · rw [if_neg (by simp [v2, hid]), if_neg hid, h2]
      cases nget r.notes id op with
      | none => rfl
      | some n =>
        simp only [Option.map_some, Option.getD_some]
        unfold fix
        split <;> rfl
  · have h1 := mget_filterV h.inv.ok.l.keys (badL p.1) (fun k v => k[0] == p.1 || v == p.1) (fun _ => rfl) (v2 id op)
    show mget (s.links.1.filter fun r => !(badL p.1 r)) (v2 id op) = _
    rw [h1, h.links id op]
    show _ = (nget (r.notes.filterMap (keepN p.1)) id op).bind nto
    rw [nget_gone]
    have hv0 : (v2 id op)[0] = id := rfl
    by_cases hid : id = p.1
    · rw [if_pos hid]
      cases (nget r.notes id op).bind nto with
      | none => rfl
      | some v =>
        rw [Option.bind_some, if_pos]
        · rfl
        · rw [hv0, hid]; simp
    · rw [if_neg hid]
      cases nget r.notes id op with
      | none => rfl
      | some n =>
        simp only [Option.bind_some, Option.map_some]
        rw [fix_nto]
        cases nto n with
        | none => rfl
        | some v =>
          simp only [Option.bind_some, hv0]
          by_cases hv : v = p.1
          · simp [hv]
          · simp [hid, hv]
theorem RelC.drop {s : C15} {r : R15} (h : RelC s r) (k : Ky) : RelC (dropK s k) (dropR r k) := by
  rcases h.find k with ⟨_, _, h1, h2⟩ | ⟨i, p, _, _, _, h1, h2, h3⟩
  · rw [h1, h2]; exact h
  · rw [h2, h3]; exact h.gone h1
theorem RelC.pick {s : C15} {r : R15} (h : RelC s r) : RelC (pickS s) (rused r) := by
  have e := rused_eq r
  refine ⟨h.inv.pick, by rw [e.1]; exact h.ord, by rw [e.1]; exact h.tr, h.hel, by rw [e.2.1]; exact h.fails, by rw [e.2.1]; exact h.links, by rw [e.2.1]; exact h.uniq, by rw [e.2.2.1]; exact h.lim, ?_, ?_, by rw [e.2.2.2.2.1]; exact h.last, by rw [e.2.2.2.2.2]; exact h.top⟩
  · simp only [pickS, h.picks]
    unfold rused
    split
    · simp
    · rename_i hu
      rw [List.drop_eq_nil_of_le (by omega)]
      rfl
  · unfold rused
    split
    · rename_i hu
      exact hu
    · exact h.used
theorem RelC.pickN {s : C15} {r : R15} (h : RelC s r) : pickN s s.order.length = rpickN r := by
  rw [h.len]
  unfold Proofs.Ytddhdoncjfgfnaa.pickN rpickN
  rw [h.picks]
  unfold rpick1
  by_cases hu : r.used < r.picks.length
  · rw [List.drop_eq_getElem_cons hu, List.getElem?_eq_getElem hu]
    rfl
  · rw [List.drop_eq_nil_of_le (by omega), List.getElem?_eq_none (by omega)]
    simp
theorem RelC.ev1 {s : C15} {r : R15} (h : RelC s r) (hl : s.limit ≠ 0) : RelC (Proofs.Ytddhdoncjfgfnaa.ev1 s) (rev1 r) := by
  unfold Proofs.Ytddhdoncjfgfnaa.ev1 rev1
  rw [← h.lim, h.len]
  split
  · rename_i hf
    have hlim := h.inv.ok.lim
    have h0 : 0 < r.rows.length := by omega
    have hN := h.pickN
    have hr := rpickN_rng h0
    have hi : (rpickN r).toNat < r.rows.length := by omega
    unfold evK revK
    rw [hN, h.ord, List.getElem?_map, List.getElem?_eq_getElem hi]
    have hg := h.pick.gone (i := (rpickN r).toNat) (p := r.rows[(rpickN r).toNat]) (by rw [(rused_eq r).1]; exact List.getElem?_eq_getElem hi)
    exact hg
  · exact h
theorem RelC.add {s : C15} {r : R15} (h : RelC s r) (hr : (s.order.length : Int) < s.limit) {y x : LT} (hyx : y.t = x.t) (hn : ∀ id ∈ s.order, keyOf s id ≠ y.key) : RelC (addK s y) (addR r x) := by
  have hfr : ∀ id ∈ s.order, id ≠ s.last + 1 := fun id hid e => by have := (h.inv.ok.ids id hid).2; omega
  refine ⟨h.inv.add hr hn, ?_, fun q hq => ?_, fun id hid => ?_, h.fails, h.links, h.uniq, h.lim, h.picks, h.used, ?_, ?_⟩
  · show s.order ++ [s.last + 1] = (r.rows ++ [(r.last + 1, x)]).map (·.1)
    rw [List.map_append, ← h.ord, h.last]
    rfl
  · rcases List.mem_append.1 hq with hq | hq
    · have hne : q.1 ≠ s.last + 1 := hfr q.1 (by rw [h.ord]; exact List.mem_map.2 ⟨q, hq, rfl⟩)
      obtain ⟨h3, h4⟩ := h.tr q hq
      simp only [at15, addK] at h3 ⊢
      rw [mget_mput_ne hne]
      exact ⟨h3, h4⟩
    · simp only [List.mem_singleton] at hq
      subst hq
      rw [← h.last]
      refine ⟨by rw [at_add h.inv.ok]; exact hyx, ?_⟩
      simp only [addK]
      rw [mget_mput_self h.inv.ok.h.keys]
      rfl
  · show id ∈ s.order ++ [s.last + 1]
    by_cases e : id = s.last + 1
    · simp [e]
    · simp only [addK] at hid
      rw [mget_mput_ne e] at hid
      exact List.mem_append.2 (.inl (h.hel id hid))
  · show s.last + 1 = r.last + 1
    rw [h.last]
  · show max s.most (s.order.length + 1) = max r.top (r.rows.length + 1)
    rw [h.top, h.len]
theorem RelC.put {s : C15} {r : R15} (h : RelC s r) {y x : LT} (hyx : y.t = x.t) : putN s = rputN r ∧ RelC (putS s y) (rputS r x) := by
  have hk : y.key = x.key := (LT.t_eq hyx).1
  refine ⟨by rw [putN, rputN, h.lim, h.last], ?_⟩
  unfold putS rputS
  rw [← h.lim, hk]
  split
  · exact h
  · rename_i hl
    have h1 := h.drop x.key
    have hl1 : (dropK s x.key).limit ≠ 0 := by rw [(drop_last s x.key).2]; exact hl
    have h2 := h1.ev1 hl1
    have hr := ev1_room h1.inv.ok hl1
    have hn := ev_none (drop_none h.inv x.key)
    exact h2.add (by rw [(ev1_last _).2]; exact hr) hyx (by rw [hk]; exact hn)
theorem RelC.fail {s : C15} {r : R15} (h : RelC s r) (id op : Int) : failV s (v2 id op) = (nFail ((nget r.notes id op).getD ⟨id, op, 0, 0⟩)).fails ∧ RelC (failS s (v2 id op)) (setR r id op nFail) := by
  have hf := h.fails id op
  have hv : failV s (v2 id op) = (nFail ((nget r.notes id op).getD ⟨id, op, 0, 0⟩)).fails := by
    unfold failV nFail
    rw [hf]
    cases nget r.notes id op <;> rfl
  have hg : ∀ n, (nFail n).id = n.id ∧ (nFail n).op = n.op := fun _ => ⟨rfl, rfl⟩
  have hr : (setR r id op nFail).rows = r.rows := (noteR_len r id op).2
  have hrr : (noteR r id op).1.limit = r.limit ∧ (noteR r id op).1.picks = r.picks ∧ (noteR r id op).1.used = r.used ∧ (noteR r id op).1.last = r.last ∧ (noteR r id op).1.top = r.top := by
    unfold noteR; split <;> exact ⟨rfl, rfl, rfl, rfl, rfl⟩
  refine ⟨hv, h.inv.fail _, by rw [hr]; exact h.ord, by rw [hr]; exact h.tr, h.hel, fun id' op' => ?_, fun id' op' => ?_, by rw [set_upd]; exact (keys_upd hg h.uniq).1, h.lim.trans hrr.1.symm, ?_, ?_, h.last.trans hrr.2.2.2.1.symm, h.top.trans hrr.2.2.2.2.symm⟩
  · rw [set_upd, nget_upd hg]
    by_cases hh : id' = id ∧ op' = op
    · rw [if_pos hh, hh.1, hh.2]
      simp only [failS]
      rw [mget_mput_self (mkeys_mput h.inv.ok.f.keys)]
      simpa using hv
    · rw [if_neg hh, ← h.fails id' op']
      simp only [failS]
      have hne : v2 id' op' ≠ v2 id op := fun e => hh (by
        have e0 : (v2 id' op')[0] = (v2 id op)[0] := by rw [e]
        have e1 : (v2 id' op')[1] = (v2 id op)[1] := by rw [e]
        exact ⟨e0, e1⟩)
      rw [mget_mput_ne hne, mget_mput_ne hne]
  · show mget s.links.1 (v2 id' op') = _
    rw [set_upd, nget_upd hg, h.links id' op']
    by_cases hh : id' = id ∧ op' = op
    · rw [if_pos hh, hh.1, hh.2]
      cases nget r.notes id op with
      | none => rfl
      | some n => rfl
    · rw [if_neg hh]
  · show s.picks = (noteR r id op).1.picks.drop (noteR r id op).1.used
    rw [hrr.2.1, hrr.2.2.1]; exact h.picks
  · show (noteR r id op).1.used ≤ (noteR r id op).1.picks.length
    rw [hrr.2.1, hrr.2.2.1]; exact h.used
theorem RelC.linkE {s : C15} {r : R15} (h : RelC s r) (id op to : Int) : linkE s id op to = rlinkE r id op to := by
  unfold Proofs.Ytddhdoncjfgfnaa.linkE rlinkE
  rw [h.held id, h.held to]
theorem RelC.link {s : C15} {r : R15} (h : RelC s r) (id op : Int) {to : Int} (ht : to ≠ 0) : RelC (linkS s (v2 id op) to) (setR r id op (nTo to)) := by
  have hg : ∀ n, (nTo to n).id = n.id ∧ (nTo to n).op = n.op := fun _ => ⟨rfl, rfl⟩
  have hr : (setR r id op (nTo to)).rows = r.rows := (noteR_len r id op).2
  have hrr : (noteR r id op).1.limit = r.limit ∧ (noteR r id op).1.picks = r.picks ∧ (noteR r id op).1.used = r.used ∧ (noteR r id op).1.last = r.last ∧ (noteR r id op).1.top = r.top := by
    unfold noteR; split <;> exact ⟨rfl, rfl, rfl, rfl, rfl⟩
  refine ⟨h.inv.link _ _, by rw [hr]; exact h.ord, by rw [hr]; exact h.tr, h.hel, fun id' op' => ?_, fun id' op' => ?_, by rw [set_upd]; exact (keys_upd hg h.uniq).1, h.lim.trans hrr.1.symm, ?_, ?_, h.last.trans hrr.2.2.2.1.symm, h.top.trans hrr.2.2.2.2.symm⟩
  · rw [set_upd, nget_upd hg]
    by_cases hh : id' = id ∧ op' = op
    · rw [if_pos hh, hh.1, hh.2]
      have := h.fails id op
      simp only [linkS]
      rw [this]
      cases nget r.notes id op <;> rfl
    · rw [if_neg hh]
      exact h.fails id' op'
  · rw [set_upd, nget_upd hg]
    by_cases hh : id' = id ∧ op' = op
    · rw [if_pos hh, hh.1, hh.2]
      simp only [linkS]
      rw [mget_mput_self h.inv.ok.l.keys]
      simp [nto, nTo, ht]
    · rw [if_neg hh, ← h.links id' op']
      simp only [linkS]
      have hne : v2 id' op' ≠ v2 id op := fun e => hh (by
        have e0 : (v2 id' op')[0] = (v2 id op)[0] := by rw [e]
        have e1 : (v2 id' op')[1] = (v2 id op)[1] := by rw [e]
        exact ⟨e0, e1⟩)
      rw [mget_mput_ne hne]
  · show s.picks = (noteR r id op).1.picks.drop (noteR r id op).1.used
    rw [hrr.2.1, hrr.2.2.1]; exact h.picks
  · show (noteR r id op).1.used ≤ (noteR r id op).1.picks.length
    rw [hrr.2.1, hrr.2.2.1]; exact h.used
theorem RelC.linked {s : C15} {r : R15} (h : RelC s r) (id op : Int) : mget s.links.1 (v2 id op) = rlinked r id op := by
  rw [h.links id op, rlinked, linked_eq id op h.uniq]

end Go.Proofs.Ytddhdoncjfgfnaa
