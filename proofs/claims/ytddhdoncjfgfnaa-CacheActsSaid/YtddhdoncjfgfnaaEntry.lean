/-
  The engine: 'm[k] op= x': an entry is made or found, and its value stored. No condition.
-/
import Derived.Test.YtddhdoncjfgfnaaMaps
namespace Go.Eng

theorem modify_congr {α : Type} (es : Array α) (i : Nat) (f g : α → α) (h : ∀ x, es[i]? = some x → f x = g x) : es.modify i f = es.modify i g := by
  apply Array.ext
  · simp
  · intro j h1 h2
    simp only [Array.getElem_modify]
    split
    · rename_i e
      subst e
      refine h _ ?_
      exact Array.getElem?_eq_getElem (by simpa using h1)
    · rfl
theorem modify_same {α : Type} (es : Array α) (i : Nat) (f : α → α) (h : ∀ x, es[i]? = some x → f x = x) : es.modify i f = es := by
  apply Array.ext
  · simp
  · intro j h1 h2
    simp only [Array.getElem_modify]
    split
    · rename_i e
      subst e
      exact h _ (Array.getElem?_eq_getElem h2)
    · rfl
theorem key_uniq {α β : Type} : ∀ {m : List (α × β × Nat)}, (mkeys m).Nodup → ∀ {x y : α × β × Nat}, x ∈ m → y ∈ m → x.1 = y.1 → x = y
  | [], _, _, _, hx, _, _ => by cases hx
  | z :: m, hnd, x, y, hx, hy, e => by
    simp only [mkeys, List.map_cons, List.nodup_cons] at hnd
    rcases List.mem_cons.1 hx with hx | hx <;> rcases List.mem_cons.1 hy with hy | hy
    · rw [hx, hy]
    · exact absurd (List.mem_map.2 ⟨y, hy, by rw [← e, hx]⟩) hnd.1
    · exact absurd (List.mem_map.2 ⟨x, hx, by rw [e, hy]⟩) hnd.1
    · exact key_uniq hnd.2 hx hy e
section
variable {P : Program} {α β : Type} [DecidableEq α] {enc : α → Value} {ev' : β → Value} {K E T : TypeId} {w : World} {b : Nat} {m : List (α × β × Nat)} {c : Nat}
theorem mput_self {a : α} {r : α × β × Nat} (hnd : (mkeys m).Nodup) (hr : r ∈ m) (ha : r.1 = a) : mput m c a r.2.1 = m ∧ mclk m c a = c := by
  have hany : m.any (fun r => r.1 = a) = true := List.any_eq_true.2 ⟨r, hr, by simpa using ha⟩
  unfold mput mclk
  rw [if_pos hany, if_pos hany]
  refine ⟨?_, rfl⟩
  conv => rhs; rw [← List.map_id m]
  refine List.map_congr_left fun x hx => ?_
  split
  · rename_i h
    have := key_uniq hnd hx hr (by rw [h, ha])
    subst this
    rfl
  · rfl
theorem run_mapEntry (kt : KT P K enc) (hT : P.underlying T = some (.map K E)) {z : β} (hz : (zeroValue E).run P w = .ok (ev' z) w) (hb : w.heap[b]? = some (mo enc ev' m c)) (hnd : (mkeys m).Nodup) (a : α) :
    ∃ n : Nat, (∃ r ∈ mput m c a ((mget m a).getD z), r.1 = a ∧ r.2.2 = n) ∧
      (Instr.mapEntry T (.map (some b)) (enc a)).run P w = .ok (.tuple #[ev' ((mget m a).getD z), .int .i64 n]) { w with heap := w.heap.setIfInBounds b (mo enc ev' (mput m c a ((mget m a).getD z)) (mclk m c a)) } := by
  have hg := MapKept.run_getObj_map (P := P) hb
  rcases kt_find (ev' := ev') kt w a m with ⟨h1, h2⟩ | ⟨i, r, h1, h2, h3, h4⟩
  · rw [mget_none h1]
    have e : mo enc ev' (mput m c a z) (mclk m c a) = .map ((m.map fun r => (⟨enc r.1, ev' r.2.1, r.2.2⟩ : MapEntry)).toArray.push { key := enc a, val := ev' z, born := c }) (c + 1) := by
      unfold mo mput mclk
      rw [any_none h1]
      simp
    refine ⟨c, ⟨(a, z, c), by unfold mput; rw [any_none h1]; simp, rfl, rfl⟩, ?_⟩
    simp only [Instr.mapEntry, Sem.run_bind, run_underlying hT, Result.andThen_ok, hg, kt.check, h2, hz, MapKept.run_setObj_map _ hb, Option.getD_none, e, Sem.run_pure]
    rfl
  · rw [mget_some h1 h2 h3]
    have hrm := List.mem_of_getElem? h1
    obtain ⟨e1, e2⟩ := mput_self (c := c) hnd hrm h2
    have hk : (((m.map fun r => (⟨enc r.1, ev' r.2.1, r.2.2⟩ : MapEntry)).toArray[i]?).map (·.key)).getD (enc a) = enc a := by
      simp [h1, h2]
    have hbn : (((m.map fun r => (⟨enc r.1, ev' r.2.1, r.2.2⟩ : MapEntry)).toArray[i]?).map (fun x => (x.born : Int))).getD 0 = ((r.2.2 : Nat) : Int) := by
      simp [h1]
    have e : ((m.map fun r => (⟨enc r.1, ev' r.2.1, r.2.2⟩ : MapEntry)).toArray.modify i fun e => { e with key := enc a }) = (m.map fun r => (⟨enc r.1, ev' r.2.1, r.2.2⟩ : MapEntry)).toArray := by
      refine modify_same _ _ _ fun x hx => ?_
      simp only [List.getElem?_toArray, List.getElem?_map, h1, Option.map_some, Option.some.injEq] at hx
      subst hx
      simp only [h2]
    refine ⟨r.2.2, ⟨r, by rw [Option.getD_some, e1]; exact hrm, h2, rfl⟩, ?_⟩
    simp only [Instr.mapEntry, Sem.run_bind, run_underlying hT, Result.andThen_ok, hg, kt.check, h4, hk, kt.stays, MapKept.run_setObj_map _ hb, Option.getD_some, hbn, e1, e2, Sem.run_pure, e]
    rfl
theorem run_entryStore (hb : w.heap[b]? = some (mo enc ev' m c)) (hm : Mwf m c) {a : α} {r : α × β × Nat} (hr : r ∈ m) (ha : r.1 = a) (v : β) :
    (Instr.entryStore T (.map (some b)) (.int .i64 (r.2.2 : Nat)) (ev' v)).run P w = .ok () { w with heap := w.heap.setIfInBounds b (mo enc ev' (mput m c a v) c) } := by
  have hg := MapKept.run_getObj_map (P := P) hb
  obtain ⟨i, hi⟩ := List.mem_iff_getElem?.1 hr
  have hil := (List.getElem?_eq_some_iff.1 hi).1
  have hie := (List.getElem?_eq_some_iff.1 hi).2
  have hany : m.any (fun r => r.1 = a) = true := List.any_eq_true.2 ⟨r, hr, by simpa using ha⟩
  have hf : (m.map fun r => (⟨enc r.1, ev' r.2.1, r.2.2⟩ : MapEntry)).toArray.findIdx? (fun e => (e.born : Int) == ((r.2.2 : Nat) : Int)) = some i := by
    rw [List.findIdx?_toArray, List.findIdx?_map, List.findIdx?_eq_some_iff_getElem]
    refine ⟨hil, by simp [hie], fun j hj => ?_⟩
    have hjl : j < m.length := by omega
    have h1 := List.pairwise_iff_getElem.1 hm.born j i (by simpa using hjl) (by simpa using hil) hj
    simp only [List.getElem_map, hie] at h1
    simp only [Function.comp]
    intro hc
    have h2 : ((m[j].2.2 : Nat) : Int) = ((r.2.2 : Nat) : Int) := by simpa using hc
    exact h1 (by omega)
  have e : mo enc ev' (mput m c a v) c = .map ((m.map fun r => (⟨enc r.1, ev' r.2.1, r.2.2⟩ : MapEntry)).toArray.modify i fun e => { e with val := ev' v }) c := by
    unfold mo mput
    rw [if_pos hany, ← modify_at hm.keys hi ha]
    congr 1
    refine modify_congr _ _ _ _ fun x hx => ?_
    simp only [List.getElem?_toArray, List.getElem?_map, hi, Option.map_some, Option.some.injEq] at hx
    subst hx
    simp only [ha]
  simp only [Instr.entryStore, Sem.run_bind, hg, Result.andThen_ok, asInt, asIntOf, Sem.run_pure, hf, MapKept.run_setObj_map _ hb, e]
end
section
variable {P : Program} {α β : Type} [DecidableEq α] {enc : α → Value} {ev' : β → Value} {KK E T : TypeId} {w0 w : World} {F0 : List Nat} {ls : List Ck} {f : Fm} {K : Fm → World → Prop} {Qp : List PanicEntry → World → Prop}
  {d : Option Nat} {ty : TypeId} {pos : String} {after : Array Edge} {g : Option (Nat × Bool)} {m : List (α × β × Nat)} {c b : Nat}
theorem o_mapEntry {x y : Operand} {a : α} {z : β} {i : Nat} (kt : KT P KK enc) (hT : P.underlying T = some (.map KK E)) (hz : (zeroValue E).run P w = .ok (ev' z) w) (hs : St w0 F0 ls w) (hx : ev f x = .map (some b)) (hy : ev f y = enc a)
    (hi : ls[i]? = some [(b, mo enc ev' m c)]) (hnd : (mkeys m).Nodup)
    (k : ∀ (n : Nat) w', (∃ r ∈ mput m c a ((mget m a).getD z), r.1 = a ∧ r.2.2 = n) → St w0 F0 (ls.set i [(b, mo enc ev' (mput m c a ((mget m a).getD z)) (mclk m c a))]) w' → K (put f d (.tuple #[ev' ((mget m a).getD z), .int .i64 n])) w') :
    opF P ⟨d, .mapEntry T x y, ty, pos, after, g⟩ f w K Qp := by
  obtain ⟨n, hn, hrun⟩ := run_mapEntry kt hT hz (hs.own hi) hnd a
  simp only [opF, execOp, hx, hy, Sem.run_bind, hrun, Result.andThen_ok, Sem.run_pure, aft]
  exact k n _ hn (hs.set1 hi)
theorem o_entryStore {x y u : Operand} {a : α} {v : β} {i : Nat} {r : α × β × Nat} (hs : St w0 F0 ls w) (hx : ev f x = .map (some b)) (hy : ev f y = .int .i64 (r.2.2 : Nat)) (hu : ev f u = ev' v)
    (hi : ls[i]? = some [(b, mo enc ev' m c)]) (hm : Mwf m c) (hr : r ∈ m) (ha : r.1 = a) (k : ∀ w', St w0 F0 (ls.set i [(b, mo enc ev' (mput m c a v) c)]) w' → K (put f d undef) w') :
    opF P ⟨d, .entryStore T x y u, ty, pos, after, g⟩ f w K Qp := by
  simp only [opF, execOp, hx, hy, hu, Sem.run_bind, run_entryStore (hs.own hi) hm hr ha v, Result.andThen_ok, Sem.run_pure, aft]
  exact k _ (hs.set1 hi)
end
end Go.Eng
