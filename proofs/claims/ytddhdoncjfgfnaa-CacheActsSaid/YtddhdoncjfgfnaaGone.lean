/-
  Layer 15: a trace is let go (gone). Condition: the cache is whole.
-/
import Derived.Test.YtddhdoncjfgfnaaDel
namespace Go.Proofs.Ytddhdoncjfgfnaa
open Go.Eng

theorem key_eq {α β : Type} : ∀ {m : List (α × β × Nat)}, (m.map (·.1)).Nodup → ∀ {x y : α × β × Nat}, x ∈ m → y ∈ m → x.1 = y.1 → x = y
  | [], _, _, _, hx, _, _ => by cases hx
  | z :: m, hnd, x, y, hx, hy, e => by
    simp only [List.map_cons, List.nodup_cons] at hnd
    rcases List.mem_cons.1 hx with hx | hx <;> rcases List.mem_cons.1 hy with hy | hy
    · rw [hx, hy]
    · exact absurd (List.mem_map.2 ⟨y, hy, by rw [← e, hx]⟩) hnd.1
    · exact absurd (List.mem_map.2 ⟨x, hx, by rw [e, hy]⟩) hnd.1
    · exact key_eq hnd.2 hx hy e
theorem born_eq {α β : Type} : ∀ {m : List (α × β × Nat)}, (m.map (·.2.2)).Nodup → ∀ {x y : α × β × Nat}, x ∈ m → y ∈ m → x.2.2 = y.2.2 → x = y
  | [], _, _, _, hx, _, _ => by cases hx
  | z :: m, hnd, x, y, hx, hy, e => by
    simp only [List.map_cons, List.nodup_cons] at hnd
    rcases List.mem_cons.1 hx with hx | hx <;> rcases List.mem_cons.1 hy with hy | hy
    · rw [hx, hy]
    · exact absurd (List.mem_map.2 ⟨y, hy, by rw [← e, hx]⟩) hnd.1
    · exact absurd (List.mem_map.2 ⟨x, hx, by rw [e, hy]⟩) hnd.1
    · exact born_eq hnd.2 hx hy e
theorem left_less {α β : Type} {m : List (α × β × Nat)} {r : α × β × Nat} (hr : r ∈ m) {seen : Array Nat} (h : seen.contains r.2.2 = false) :
    (m.filter fun x => !(seen.push r.2.2).contains x.2.2).length < (m.filter fun x => !seen.contains x.2.2).length := by
  refine filter_lt _ _ (fun x hx => ?_) r (by rw [h]; rfl) (by rw [contains_push]; simp) m hr
  rw [contains_push] at hx
  cases hc : seen.contains x.2.2
  · rfl
  · rw [hc] at hx; cases hx
section
variable {α β : Type} {m : List (α × β × Nat)} {c : Nat} {bad : α × β × Nat → Bool} {seen : Array Nat} {r : α × β × Nat}
theorem filt_del [DecidableEq α] (hm : Mwf m c) (hr : r ∈ m) (hb : bad r = true) : mdel (m.filter fun x => !(bad x && seen.contains x.2.2)) r.1 = m.filter fun x => !(bad x && (seen.push r.2.2).contains x.2.2) := by
  unfold mdel
  rw [List.filter_filter]
  refine List.filter_congr fun x hx => ?_
  rw [contains_push]
  by_cases h : x.2.2 = r.2.2
  · have := born_eq hm.born hx hr h
    subst this
    simp [hb]
  · have h1 : x.1 ≠ r.1 := fun e => h (by rw [key_eq hm.keys hx hr e])
    have h3 : (x.2.2 == r.2.2) = false := by simpa using h
    simp [h1, h3]
theorem filt_stay (hm : Mwf m c) (hr : r ∈ m) (hb : bad r = false) : (m.filter fun x => !(bad x && seen.contains x.2.2)) = m.filter fun x => !(bad x && (seen.push r.2.2).contains x.2.2) := by
  refine List.filter_congr fun x hx => ?_
  rw [contains_push]
  by_cases h : x.2.2 = r.2.2
  · have := born_eq hm.born hx hr h
    subst this
    simp [hb]
  · have h3 : (x.2.2 == r.2.2) = false := by simpa using h
    simp [h3]
theorem filt_end (h : ∀ r ∈ m.filter (fun x => !(bad x && seen.contains x.2.2)), seen.contains r.2.2 = true) : (m.filter fun x => !(bad x && seen.contains x.2.2)) = m.filter fun x => !(bad x) := by
  refine List.filter_congr fun x hx => ?_
  cases hb : bad x
  · simp
  · cases hc : seen.contains x.2.2
    · have := h x (List.mem_filter.2 ⟨hx, by simp only [hb, hc]; rfl⟩)
      rw [hc] at this; cases this
    · simp
theorem Mwf.filter (h : Mwf m c) (p : α × β × Nat → Bool) : Mwf (m.filter p) c :=
  ⟨h.keys.sublist (List.filter_sublist.map _), h.born.sublist (List.filter_sublist.map _), fun r hr => h.lt r (List.mem_filter.1 hr).1⟩
end
theorem v2_0 (a : V2) : (ic a.toList)[0]? = some (.int .i64 a[0]) := by simp [ic]
def badF (id : Int) (r : V2 × Int × Nat) : Bool := r.1[0] == id
def badL (id : Int) (r : V2 × Int × Nat) : Bool := r.1[0] == id || r.2.1 == id
def goneK (s : C15) (id : Int) : C15 :=
  { s with held := (mdel s.held.1 id, s.held.2), order := rest id s.order, fails := (s.fails.1.filter fun r => !(badF id r), s.fails.2), links := (s.links.1.filter fun r => !(badL id r), s.links.2) }
structure Ok (s : C15) : Prop where
  h : Mwf s.held.1 s.held.2
  f : Mwf s.fails.1 s.fails.2
  l : Mwf s.links.1 s.links.2
  lim : 0 ≤ s.limit ∧ s.limit ≤ 1000
  o : (s.order.length : Int) ≤ s.limit
  nd : s.order.Nodup
  pk : s.picks.length ≤ 17592186043904
  ids : ∀ id ∈ s.order, 0 < id ∧ id ≤ s.last
  l0 : 0 ≤ s.last
theorem Ok.gone {s : C15} (h : Ok s) (id : Int) : Ok (goneK s id) := ⟨h.h.del id, Mwf.filter h.f _, Mwf.filter h.l _, h.lim, by have := rest_len id s.order; have := h.o; show ((rest id s.order).length : Int) ≤ s.limit; omega, h.nd.sublist List.filter_sublist, h.pk, fun x hx => h.ids x (List.mem_filter.1 hx).1, h.l0⟩

set_option maxRecDepth 20000 in
set_option maxHeartbeats 4000000 in
theorem f25_calls (bb : Nat) (s : C15) (c : Ck) (hc : BK bb s c) (ok : Ok s) (id : Int) : Ctr Try.prog 25 #[.pointer (some ⟨bb, 0, none⟩), .int .i64 id] c (fun _ => True) (fun _ c' => BK bb (goneK s id) c') := by
  intro w0 hp hro
  obtain ⟨mh, mf, ml, ov0, pv, oc, pc, dc, hk, hce⟩ := hc
  have hs := bk_st hp hce
  obtain ⟨oa, ocap, rfl⟩ := hk.o.len
  refine calls_W (n := 63) Try.func25 rfl Try.ntmps25 (by simp) ?_
  refine W_seq ?_
  -- region 0
  refine W_region (by decide +kernel) ?_
  refine sq_e rfl (o_box (cs := [.int .i64 id]) hs rfl ?_); intro b3 w hs
  refine sq_z ?_
  refine W_seq ?_
  -- region 1 DRAWS
  refine W_drawM hs Try.mixed [true, false, true, true, true, true, true, true] [0, 1, 3, 7, 0, 31] [5] [0, 1, 2, 3, 4, 5] (by decide +kernel) ?_
  intro w hs; have hR := hs.mask [true, false, true, true, true, true, true, true]
  refine dq_r hR rfl rfl rfl (fun _ w _ _ hR => r_move) ?_
  refine dq_r hR rfl rfl rfl (fun _ w _ _ hR => r_nilCheck rfl) ?_
  refine dq_r hR rfl rfl rfl (fun _ w _ _ hR => r_field rfl fa65_0) ?_
  refine dq_r hR rfl rfl rfl (fun _ w _ _ hR => r_load1 rfl ty62 (At.one (hR.own (i := 0) rfl) rfl)) ?_
  refine dq_r hR rfl rfl rfl (fun _ w _ _ hR => r_load1 rfl ty3 (At.one (hR.own (i := 7) rfl) rfl)) ?_
  refine dq_e hR rfl rfl rfl (o_delete (i := 1) (a := id) KT3 Try.underlying62 hs rfl rfl rfl ok.h.keys ?_); intro w hs
  have hR := hs.mask [true, false, true, true, true, true, true, true]
  refine dq_z hR ?_
  have hs : St w0 (ks c) [[(bb, cb (bx mh mf ml (.slice oa s.order.length ocap) pv s) 65)], [(mh, mo encI evT (mdel s.held.1 id) s.held.2)], [(mf, mo encV encI s.fails.1 s.fails.2)], [(ml, mo encV encI s.links.1 s.links.2)], oc, pc, dc, [(b3, cb [.int .i64 id] 3)]] w := hs
  refine W_seq ?_
  -- region 2
  refine W_region (by decide +kernel) ?_
  refine sq_r r_move rfl ?_
  refine sq_r r_move rfl ?_
  refine sq_r (r_nilCheck rfl) rfl ?_
  refine sq_r (r_field rfl fa65_1) rfl ?_
  refine sq_r (r_load1 rfl ty27 (At.one (hs.own (i := 0) rfl) rfl)) rfl ?_
  refine sq_r (r_makeFunc (first := []) (caps := [_]) (vs := []) (us := [.pointer (some ⟨b3, 0, none⟩)]) rfl rfl) rfl ?_
  refine sq_e rfl (o_call (i := 4) cb38 rfl rfl (f38_calls b3 id (.slice oa s.order.length ocap) s.order oc hk.o (st_apart hs (i := 4) (j := 7) (by decide) rfl rfl b3 (by simp [ks])) (by have := ok.o; have := ok.lim; omega)) hs rfl (At.one (hs.own (i := 7) rfl) rfl) ?_)
  intro ov1 oc1 w hsl hs
  refine sq_r (r_nilCheck rfl) rfl ?_
  refine sq_r (r_field rfl fa65_1) rfl ?_
  refine sq_e rfl (o_store (i := 0) (vs := [ov1]) hs rfl (sl_one hsl).2 ty27 rfl (by simpa using (sl_one hsl).1) (by simp [bx]) ?_); intro w hs
  refine sq_z ?_
  have hs : St w0 (ks c) [[(bb, cb (bx mh mf ml ov1 pv s) 65)], [(mh, mo encI evT (mdel s.held.1 id) s.held.2)], [(mf, mo encV encI s.fails.1 s.fails.2)], [(ml, mo encV encI s.links.1 s.links.2)], oc1, pc, dc, [(b3, cb [.int .i64 id] 3)]] w := hs
  refine W_seq ?_
  refine W_seq ?_
  refine W_region (by decide +kernel) ?_
  refine sq_r r_move rfl ?_
  refine sq_r (r_nilCheck rfl) rfl ?_
  refine sq_r (r_field rfl fa65_2) rfl ?_
  refine sq_r (r_load1 rfl ty63 (At.one (hs.own (i := 0) rfl) rfl)) rfl ?_
  refine sq_e rfl (o_range Try.underlying63 hs rfl (hs.own (i := 2) rfl) ?_); intro it w hs
  refine sq_z ?_
  refine W_block ?_ -- 0
  -- LOOP
  refine W_loop (fun (seen : Array Nat) f w => ∃ g, f = ov [(0, .pointer (some ⟨bb, 0, none⟩)), (3, .pointer (some ⟨b3, 0, none⟩)), (25, .pointer (some ⟨it, 0, none⟩))] g ∧
    St w0 (ks c) [[(bb, cb (bx mh mf ml ov1 pv s) 65)], [(mh, mo encI evT (mdel s.held.1 id) s.held.2)], [(mf, mo encV encI (s.fails.1.filter fun x => !(badF id x && seen.contains x.2.2)) s.fails.2)], [(ml, mo encV encI s.links.1 s.links.2)], oc1, pc, dc, [(b3, cb [.int .i64 id] 3)], [(it, .mapIter (some mf) s.fails.2 seen s.fails.2)]] w) (fun seen => (s.fails.1.filter fun x => !seen.contains x.2.2).length) #[] ?_ ?_
  · refine ⟨_, ov_self ⟨rfl, rfl, rfl, trivial⟩, ?_⟩
    have e : (s.fails.1.filter fun x => !(badF id x && (#[] : Array Nat).contains x.2.2)) = s.fails.1 := by simp
    rw [e]
    exact hs
  clear hs
  rintro seen f w ⟨g, rfl, hs⟩
  refine W_seq ?_
  refine W_region (by decide +kernel) ?_
  refine sq_e rfl (o_next (i := 8) hs rfl rfl (hs.own (i := 2) rfl) (fun r hr => ok.f.lt r (List.mem_filter.1 hr).1) (Nat.le_refl _) ?_ ?_)
  · -- an entry (below), the end (above)
    intro hall
    have hend := filt_end hall
    rw [hend] at hs
    refine sq_r (r_extract rfl rfl) rfl ?_
    refine sq_z ?_
    refine W_seq ?_
    refine W_cond rfl rfl (fun hc => ?_) (fun hc => ?_)
    · cases hc
    refine W_exit ?_
    obtain ⟨seen0, hseen0⟩ : ∃ x, x = seen := ⟨_, rfl⟩
    rw [← hseen0] at hs
    refine W_seq ?_
    refine W_region (by decide +kernel) ?_
    refine sq_r r_move rfl ?_
    refine sq_r (r_nilCheck rfl) rfl ?_
    refine sq_r (r_field rfl fa65_3) rfl ?_
    refine sq_r (r_load1 rfl ty63 (At.one (hs.own (i := 0) rfl) rfl)) rfl ?_
    refine sq_e rfl (o_range Try.underlying63 hs rfl (hs.own (i := 3) rfl) ?_); intro it2 w hs
    refine sq_z ?_
    refine W_block ?_ -- 2
    -- LOOP
    refine W_loop (fun (seen : Array Nat) f w => ∃ g, f = ov [(0, .pointer (some ⟨bb, 0, none⟩)), (3, .pointer (some ⟨b3, 0, none⟩)), (43, .pointer (some ⟨it2, 0, none⟩))] g ∧
      St w0 (ks c) [[(bb, cb (bx mh mf ml ov1 pv s) 65)], [(mh, mo encI evT (mdel s.held.1 id) s.held.2)], [(mf, mo encV encI (s.fails.1.filter fun x => !(badF id x)) s.fails.2)], [(ml, mo encV encI (s.links.1.filter fun x => !(badL id x && seen.contains x.2.2)) s.links.2)], oc1, pc, dc, [(b3, cb [.int .i64 id] 3)], [(it, .mapIter (some mf) s.fails.2 seen0 s.fails.2)], [(it2, .mapIter (some ml) s.links.2 seen s.links.2)]] w) (fun seen => (s.links.1.filter fun x => !seen.contains x.2.2).length) #[] ?_ ?_
    · refine ⟨_, ov_self ⟨rfl, rfl, rfl, trivial⟩, ?_⟩
      have e : (s.links.1.filter fun x => !(badL id x && (#[] : Array Nat).contains x.2.2)) = s.links.1 := by simp
      rw [e]
      exact hs
    clear hs
    rintro seen f w ⟨g, rfl, hs⟩
    refine W_seq ?_
    refine W_region (by decide +kernel) ?_
    refine sq_e rfl (o_next (i := 9) hs rfl rfl (hs.own (i := 3) rfl) (fun r hr => ok.l.lt r (List.mem_filter.1 hr).1) (Nat.le_refl _) ?_ ?_)
    · -- an entry (below), the end (above)
      intro hall
      have hend := filt_end hall
      rw [hend] at hs
      refine sq_r (r_extract rfl rfl) rfl ?_
      refine sq_z ?_
      refine W_seq ?_
      refine W_cond rfl rfl (fun hc => ?_) (fun hc => ?_)
      · cases hc
      refine W_exit ?_
      repeat with_reducible refine thenQ_exit ?_
      refine blockQ_exit ?_
      refine ret0 rfl ?_
      refine fin (c' := [(bb, cb (bx mh mf ml ov1 pv (goneK s id)) 65)] ++ ([(mh, mo encI evT (goneK s id).held.1 (goneK s id).held.2)] ++ ([(mf, mo encV encI (goneK s id).fails.1 (goneK s id).fails.2)] ++ ([(ml, mo encV encI (goneK s id).links.1 (goneK s id).links.2)] ++ (oc1 ++ (pc ++ dc)))))) hs ⟨mh, mf, ml, ov1, pv, oc1, pc, dc, ⟨hsl, hk.p, hk.q, fun r hr => hk.h r (List.mem_filter.1 hr).1⟩, rfl⟩ ?_
      have e : [[(bb, cb (bx mh mf ml ov1 pv s) 65)], [(mh, mo encI evT (mdel s.held.1 id) s.held.2)], [(mf, mo encV encI (s.fails.1.filter fun x => !(badF id x)) s.fails.2)], [(ml, mo encV encI (s.links.1.filter fun x => !(badL id x)) s.links.2)], oc1, pc, dc].flatten = [(bb, cb (bx mh mf ml ov1 pv (goneK s id)) 65)] ++ ([(mh, mo encI evT (goneK s id).held.1 (goneK s id).held.2)] ++ ([(mf, mo encV encI (goneK s id).fails.1 (goneK s id).fails.2)] ++ ([(ml, mo encV encI (goneK s id).links.1 (goneK s id).links.2)] ++ (oc1 ++ (pc ++ dc))))) := by
        simp [goneK, bx]
      rw [← e]
      simp only [List.flatten_cons, List.flatten_nil, List.append_nil, List.cons_append, List.nil_append]
      repeat refine List.Sublist.cons_cons _ ?_
      refine (List.Sublist.refl oc1).append ((List.Sublist.refl pc).append ?_)
      exact List.sublist_append_left _ _
    · intro r hr hnot w hs
      obtain ⟨hrm, _⟩ := List.mem_filter.1 hr
      refine sq_r (r_extract rfl rfl) rfl ?_
      refine sq_z ?_
      refine W_seq ?_
      refine W_cond rfl rfl (fun hc => ?_) (fun hc => ?_)
      rotate_left
      · cases hc
      refine W_skip ?_
      refine W_block ?_
      refine W_seq ?_
      refine W_region (by decide +kernel) ?_
      refine sq_r (r_entry rfl (hs.own (i := 9) rfl) (hs.own (i := 3) rfl) hr (ok.l.born.sublist (List.filter_sublist.map _))) rfl ?_
      refine sq_r (r_extract rfl rfl) rfl ?_
      refine sq_r (r_extract rfl rfl) rfl ?_
      refine sq_e rfl (o_alloc hs ty87 ?_); intro b5 w hs
      refine sq_e rfl (o_store (i := 10) (vs := ic r.1.toList) hs rfl rfl (by simpa using ty87) rfl (ic_one _) (by simp) ?_); intro w hs
      refine sq_r r_assign rfl ?_
      refine sq_z ?_
      have hs : St w0 (ks c) ([[(bb, cb (bx mh mf ml ov1 pv s) 65)], [(mh, mo encI evT (mdel s.held.1 id) s.held.2)], [(mf, mo encV encI (s.fails.1.filter fun x => !(badF id x)) s.fails.2)], [(ml, mo encV encI (s.links.1.filter fun x => !(badL id x && seen.contains x.2.2)) s.links.2)], oc1, pc, dc, [(b3, cb [.int .i64 id] 3)], [(it, .mapIter (some mf) s.fails.2 seen0 s.fails.2)], [(it2, .mapIter (some ml) s.links.2 (seen.push r.2.2) s.links.2)]] ++ [[(b5, cb (ic r.1.toList) 87)]]) w := by
        rw [← spl_all (cs := [Value.int .i64 0, .int .i64 0]) (vs := ic r.1.toList) (by simp)]
        exact hs
      refine W_seq ?_
      refine W_region (by decide +kernel) ?_
      refine sq_r (r_field rfl fa87_0) rfl ?_
      refine sq_r (r_load1 rfl ty3 (At.one (v := .int .i64 (r.1[0])) (hs.own (i := 10) rfl) (v2_0 r.1))) rfl ?_
      refine sq_r (r_load1 rfl ty3 (At.one (hs.own (i := 7) rfl) rfl)) rfl ?_
      refine sq_r (r_cmp rfl rfl rfl) rfl ?_
      by_cases h1 : (r.1[0] == id) = true
      · rw [h1]
        refine sq_r r_move rfl ?_
        refine sq_n rfl ?_
        refine sq_n rfl ?_
        refine sq_n rfl ?_
        refine sq_r (r_pick rfl) rfl ?_
        refine sq_z ?_
        refine W_cond (b := badL id r) rfl (by show Value.bool _ = _; simp [badL, h1]) (fun hc => ?_) (fun hc => ?_)
        · refine W_drawM hs Try.mixed [true, true, true, false, true, true, true, true, true, true, true] [0, 1, 3, 7, 0, 31] [5] [0, 1, 2, 3, 4, 5] (by decide +kernel) ?_
          intro w hs; have hR := hs.mask [true, true, true, false, true, true, true, true, true, true, true]
          refine dq_r hR rfl rfl rfl (fun _ w _ _ hR => r_move) ?_
          refine dq_r hR rfl rfl rfl (fun _ w _ _ hR => r_nilCheck rfl) ?_
          refine dq_r hR rfl rfl rfl (fun _ w _ _ hR => r_field rfl fa65_3) ?_
          refine dq_r hR rfl rfl rfl (fun _ w _ _ hR => r_load1 rfl ty63 (At.one (hR.own (i := 0) rfl) rfl)) ?_
          refine dq_r hR rfl rfl rfl (fun _ w _ _ hR => r_loadN rfl ty87 (by simp) (At.of_block (vs := ic r.1.toList) (hR.own (i := 10) rfl) (ic_all _))) ?_
          refine dq_e hR rfl rfl rfl (o_delete (i := 3) (a := r.1) KT87 Try.underlying63 hs rfl rfl rfl ((ok.l.keys).sublist (List.filter_sublist.map _)) ?_); intro w hs
          have hR := hs.mask [true, true, true, false, true, true, true, true, true, true, true]
          refine dq_z hR ?_
          rw [filt_del ok.l hrm hc] at hs
          exact ⟨seen.push r.2.2, ⟨_, ov_self ⟨rfl, rfl, rfl, trivial⟩, hs.mask [true, true, true, true, true, true, true, true, true, true]⟩, left_less hrm hnot⟩
        · refine W_skip ?_
          rw [filt_stay ok.l hrm hc] at hs
          exact ⟨seen.push r.2.2, ⟨_, ov_self ⟨rfl, rfl, rfl, trivial⟩, hs.mask [true, true, true, true, true, true, true, true, true, true]⟩, left_less hrm hnot⟩
      · have h1 : (r.1[0] == id) = false := by simpa using h1
        rw [h1]
        refine sq_r r_move rfl ?_
        refine sq_r r_move rfl ?_
        refine sq_r (r_load1 rfl ty3 (At.one (hs.own (i := 7) rfl) rfl)) rfl ?_
        refine sq_r (r_cmp rfl rfl rfl) rfl ?_
        refine sq_r (r_pick rfl) rfl ?_
        refine sq_z ?_
        refine W_cond (b := badL id r) rfl (by show Value.bool _ = _; simp [badL, h1]) (fun hc => ?_) (fun hc => ?_)
        · refine W_drawM hs Try.mixed [true, true, true, false, true, true, true, true, true, true, true] [0, 1, 3, 7, 0, 31] [5] [0, 1, 2, 3, 4, 5] (by decide +kernel) ?_
          intro w hs; have hR := hs.mask [true, true, true, false, true, true, true, true, true, true, true]
          refine dq_r hR rfl rfl rfl (fun _ w _ _ hR => r_move) ?_
          refine dq_r hR rfl rfl rfl (fun _ w _ _ hR => r_nilCheck rfl) ?_
          refine dq_r hR rfl rfl rfl (fun _ w _ _ hR => r_field rfl fa65_3) ?_
          refine dq_r hR rfl rfl rfl (fun _ w _ _ hR => r_load1 rfl ty63 (At.one (hR.own (i := 0) rfl) rfl)) ?_
          refine dq_r hR rfl rfl rfl (fun _ w _ _ hR => r_loadN rfl ty87 (by simp) (At.of_block (vs := ic r.1.toList) (hR.own (i := 10) rfl) (ic_all _))) ?_
          refine dq_e hR rfl rfl rfl (o_delete (i := 3) (a := r.1) KT87 Try.underlying63 hs rfl rfl rfl ((ok.l.keys).sublist (List.filter_sublist.map _)) ?_); intro w hs
          have hR := hs.mask [true, true, true, false, true, true, true, true, true, true, true]
          refine dq_z hR ?_
          rw [filt_del ok.l hrm hc] at hs
          exact ⟨seen.push r.2.2, ⟨_, ov_self ⟨rfl, rfl, rfl, trivial⟩, hs.mask [true, true, true, true, true, true, true, true, true, true]⟩, left_less hrm hnot⟩
        · refine W_skip ?_
          rw [filt_stay ok.l hrm hc] at hs
          exact ⟨seen.push r.2.2, ⟨_, ov_self ⟨rfl, rfl, rfl, trivial⟩, hs.mask [true, true, true, true, true, true, true, true, true, true]⟩, left_less hrm hnot⟩
  · intro r hr hnot w hs
    obtain ⟨hrm, _⟩ := List.mem_filter.1 hr
    refine sq_r (r_extract rfl rfl) rfl ?_
    refine sq_z ?_
    refine W_seq ?_
    refine W_cond rfl rfl (fun hc => ?_) (fun hc => ?_)
    rotate_left
    · cases hc
    refine W_skip ?_
    refine W_block ?_
    refine W_seq ?_
    refine W_region (by decide +kernel) ?_
    refine sq_r (r_entry rfl (hs.own (i := 8) rfl) (hs.own (i := 2) rfl) hr (ok.f.born.sublist (List.filter_sublist.map _))) rfl ?_
    refine sq_r (r_extract rfl rfl) rfl ?_
    refine sq_e rfl (o_alloc hs ty87 ?_); intro b5 w hs
    refine sq_e rfl (o_store (i := 9) (vs := ic r.1.toList) hs rfl rfl (by simpa using ty87) rfl (ic_one _) (by simp) ?_); intro w hs
    refine sq_z ?_
    have hs : St w0 (ks c) ([[(bb, cb (bx mh mf ml ov1 pv s) 65)], [(mh, mo encI evT (mdel s.held.1 id) s.held.2)], [(mf, mo encV encI (s.fails.1.filter fun x => !(badF id x && seen.contains x.2.2)) s.fails.2)], [(ml, mo encV encI s.links.1 s.links.2)], oc1, pc, dc, [(b3, cb [.int .i64 id] 3)], [(it, .mapIter (some mf) s.fails.2 (seen.push r.2.2) s.fails.2)]] ++ [[(b5, cb (ic r.1.toList) 87)]]) w := by
      rw [← spl_all (cs := [Value.int .i64 0, .int .i64 0]) (vs := ic r.1.toList) (by simp)]
      exact hs
    refine W_seq ?_
    refine W_region (by decide +kernel) ?_
    refine sq_r (r_field rfl fa87_0) rfl ?_
    refine sq_r (r_load1 rfl ty3 (At.one (v := .int .i64 (r.1[0])) (hs.own (i := 9) rfl) (v2_0 r.1))) rfl ?_
    refine sq_r (r_load1 rfl ty3 (At.one (hs.own (i := 7) rfl) rfl)) rfl ?_
    refine sq_r (r_cmp rfl rfl rfl) rfl ?_
    refine sq_z ?_
    refine W_cond (b := badF id r) rfl rfl (fun hc => ?_) (fun hc => ?_)
    · refine W_drawM hs Try.mixed [true, true, false, true, true, true, true, true, true, true] [0, 1, 3, 7, 0, 31] [5] [0, 1, 2, 3, 4, 5] (by decide +kernel) ?_
      intro w hs; have hR := hs.mask [true, true, false, true, true, true, true, true, true, true]
      refine dq_r hR rfl rfl rfl (fun _ w _ _ hR => r_move) ?_
      refine dq_r hR rfl rfl rfl (fun _ w _ _ hR => r_nilCheck rfl) ?_
      refine dq_r hR rfl rfl rfl (fun _ w _ _ hR => r_field rfl fa65_2) ?_
      refine dq_r hR rfl rfl rfl (fun _ w _ _ hR => r_load1 rfl ty63 (At.one (hR.own (i := 0) rfl) rfl)) ?_
      refine dq_r hR rfl rfl rfl (fun _ w _ _ hR => r_loadN rfl ty87 (by simp) (At.of_block (vs := ic r.1.toList) (hR.own (i := 9) rfl) (ic_all _))) ?_
      refine dq_e hR rfl rfl rfl (o_delete (i := 2) (a := r.1) KT87 Try.underlying63 hs rfl rfl rfl ((ok.f.keys).sublist (List.filter_sublist.map _)) ?_); intro w hs
      have hR := hs.mask [true, true, false, true, true, true, true, true, true, true]
      refine dq_z hR ?_
      rw [filt_del ok.f hrm hc] at hs
      exact ⟨seen.push r.2.2, ⟨_, ov_self ⟨rfl, rfl, rfl, trivial⟩, hs.mask [true, true, true, true, true, true, true, true, true]⟩, left_less hrm hnot⟩
    · refine W_skip ?_
      rw [filt_stay ok.f hrm hc] at hs
      exact ⟨seen.push r.2.2, ⟨_, ov_self ⟨rfl, rfl, rfl, trivial⟩, hs.mask [true, true, true, true, true, true, true, true, true]⟩, left_less hrm hnot⟩

end Go.Proofs.Ytddhdoncjfgfnaa
