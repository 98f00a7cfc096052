/-
  Layer 17, plain: what is written are bytes, and not many; what is read is of the size of an int. Condition: what is written is of the size of an int.
-/
import Derived.Test.YtfojeengapebmaaDec
namespace Go.Proofs.Ytfojeengapebmaa
open Go.Eng

theorem isB.app {a b : List Int} (ha : isB a) (hb : isB b) : isB (a ++ b) := fun c hc => (List.mem_append.1 hc).elim (ha c) (hb c)
theorem isB.nil : isB [] := fun _ h => by cases h
theorem eNum_isB {n l : Int} {o : List Int} (h : eNum n l = some o) : isB o := by
  unfold eNum at h
  split at h
  · simp only [Option.some.injEq] at h
    subst h
    exact encB_isB _
  · cases h
theorem eSrc_isB {x : Sc} {o : List Int} (h : eSrc x = some o) : isB o := by
  obtain ⟨a, ha, h3⟩ := Option.bind_eq_some_iff.1 h
  split at h3
  · split at h3
    · simp only [Option.some.injEq] at h3
      subst h3
      exact (eNum_isB ha).app ((encB_isB _).app (encB_isB _))
    · cases h3
  · split at h3
    · obtain ⟨b, hb, rfl⟩ := Option.map_eq_some_iff.1 h3
      exact (eNum_isB ha).app (eNum_isB hb)
    · cases h3
theorem eL_isB {α : Type} {e : α → Option (List Int)} (he : ∀ x o, e x = some o → isB o) : ∀ (xs : List α) (o : List Int), eL e xs = some o → isB o
  | [], o, h => by simp only [eL, Option.some.injEq] at h; subst h; exact isB.nil
  | x :: xs, o, h => by
    simp only [eL] at h
    obtain ⟨a, ha, h2⟩ := Option.bind_eq_some_iff.1 h
    obtain ⟨b, hb, rfl⟩ := Option.map_eq_some_iff.1 h2
    exact (he x a ha).app (eL_isB he xs b hb)
theorem lst_eisB {α : Type} {e : α → Option (List Int)} (he : ∀ x o, e x = some o → isB o) {xs : List α} {o : List Int} (h : ((eNum (xs.length : Int) 0).bind fun a => (eL e xs).map (a ++ ·)) = some o) : isB o := by
  obtain ⟨a, ha, h2⟩ := Option.bind_eq_some_iff.1 h
  obtain ⟨b, hb, rfl⟩ := Option.map_eq_some_iff.1 h2
  exact (eNum_isB ha).app (eL_isB he xs b hb)
theorem eLk_isB {x : Lk} {o : List Int} (h : eLk x = some o) : isB o := by
  obtain ⟨a, ha, g1⟩ := Option.bind_eq_some_iff.1 h
  obtain ⟨b, hb, g2⟩ := Option.bind_eq_some_iff.1 g1
  obtain ⟨c, hc, g3⟩ := Option.bind_eq_some_iff.1 g2
  obtain ⟨d, hd, g4⟩ := Option.bind_eq_some_iff.1 g3
  obtain ⟨s, hs, rfl⟩ := Option.map_eq_some_iff.1 g4
  exact (eNum_isB ha).app ((eNum_isB hb).app ((eNum_isB hc).app ((eNum_isB hd).app (lst_eisB (fun _ _ h => eSrc_isB h) hs))))
theorem eVt_isB {x : Vt} {o : List Int} (h : eVt x = some o) : isB o := by
  obtain ⟨a, ha, g1⟩ := Option.bind_eq_some_iff.1 h
  obtain ⟨s, hs, rfl⟩ := Option.map_eq_some_iff.1 g1
  exact (eNum_isB ha).app (lst_eisB (fun _ _ h => eSrc_isB h) hs)
theorem eAll_isB {ls : List Lk} {vs : List Vt} {o : List Int} (h : eAll ls vs = some o) : isB o := by
  obtain ⟨a, ha, g1⟩ := Option.bind_eq_some_iff.1 h
  obtain ⟨b, hb, rfl⟩ := Option.map_eq_some_iff.1 g1
  exact (lst_eisB (fun _ _ h => eLk_isB h) ha).app (lst_eisB (fun _ _ h => eVt_isB h) hb)

theorem eL_len {α : Type} {e : α → Option (List Int)} {f : α → Nat} : ∀ (xs : List α) (o : List Int), (∀ x ∈ xs, ∀ o, e x = some o → o.length ≤ f x) → eL e xs = some o → o.length ≤ (xs.map f).sum
  | [], o, _, h => by simp only [eL, Option.some.injEq] at h; subst h; simp
  | x :: xs, o, hf, h => by
    simp only [eL] at h
    obtain ⟨a, ha, h2⟩ := Option.bind_eq_some_iff.1 h
    obtain ⟨b, hb, rfl⟩ := Option.map_eq_some_iff.1 h2
    have h3 := hf x (by simp) a ha
    have h4 := eL_len xs b (fun y hy => hf y (by simp [hy])) hb
    simp only [List.length_append, List.map_cons, List.sum_cons]
    omega
theorem lst_elen {α : Type} {e : α → Option (List Int)} {f : α → Nat} {xs : List α} {o : List Int} (hf : ∀ x ∈ xs, ∀ o, e x = some o → o.length ≤ f x) (h : ((eNum (xs.length : Int) 0).bind fun a => (eL e xs).map (a ++ ·)) = some o) : o.length ≤ 10 + (xs.map f).sum := by
  obtain ⟨a, ha, h2⟩ := Option.bind_eq_some_iff.1 h
  obtain ⟨b, hb, rfl⟩ := Option.map_eq_some_iff.1 h2
  have h3 := eNum_len ha
  have h4 := eL_len xs b hf hb
  simp only [List.length_append]
  omega
theorem sum_30 {α : Type} (xs : List α) : (xs.map fun _ => 30).sum = 30 * xs.length := by
  induction xs with
  | nil => rfl
  | cons x l ih => simp only [List.map_cons, List.sum_cons, List.length_cons, ih]; omega
theorem eLk_len {x : Lk} {o : List Int} (hx : okL x) (h : eLk x = some o) : o.length ≤ 50 + 30 * x.regs.length := by
  obtain ⟨a, ha, g1⟩ := Option.bind_eq_some_iff.1 h
  obtain ⟨b, hb, g2⟩ := Option.bind_eq_some_iff.1 g1
  obtain ⟨c, hc, g3⟩ := Option.bind_eq_some_iff.1 g2
  obtain ⟨d, hd, g4⟩ := Option.bind_eq_some_iff.1 g3
  obtain ⟨s, hs, rfl⟩ := Option.map_eq_some_iff.1 g4
  have h1 := eNum_len ha
  have h2 := eNum_len hb
  have h3 := eNum_len hc
  have h4 := eNum_len hd
  have h5 := lst_elen (f := fun _ => 30) (fun y hy o h => eSrc_len (hx.2.2.2.2 y hy) h) hs
  rw [sum_30] at h5
  simp only [List.length_append]
  omega
theorem eVt_len {x : Vt} {o : List Int} (hx : okV x) (h : eVt x = some o) : o.length ≤ 50 + 30 * x.cells.length := by
  obtain ⟨a, ha, g1⟩ := Option.bind_eq_some_iff.1 h
  obtain ⟨s, hs, rfl⟩ := Option.map_eq_some_iff.1 g1
  have h1 := eNum_len ha
  have h5 := lst_elen (f := fun _ => 30) (fun y hy o h => eSrc_len (hx.2 y hy) h) hs
  rw [sum_30] at h5
  simp only [List.length_append]
  omega
theorem sum_lk (xs : List Lk) : (xs.map fun x => 50 + 30 * x.regs.length).sum = 50 * xs.length + 30 * rgn xs := by
  induction xs with
  | nil => rfl
  | cons x l ih => simp only [List.map_cons, List.sum_cons, List.length_cons, rgn] at ih ⊢; omega
theorem sum_vt (xs : List Vt) : (xs.map fun x => 50 + 30 * x.cells.length).sum = 50 * xs.length + 30 * cln xs := by
  induction xs with
  | nil => rfl
  | cons x l ih => simp only [List.map_cons, List.sum_cons, List.length_cons, cln] at ih ⊢; omega
theorem eAll_len {ls : List Lk} {vs : List Vt} {o : List Int} (hl : ∀ x ∈ ls, okL x) (hv : ∀ x ∈ vs, okV x) (h : eAll ls vs = some o) : o.length ≤ 20 + 50 * (ls.length + vs.length + rgn ls + cln vs) := by
  obtain ⟨a, ha, g1⟩ := Option.bind_eq_some_iff.1 h
  obtain ⟨b, hb, rfl⟩ := Option.map_eq_some_iff.1 g1
  have h1 := lst_elen (f := fun x : Lk => 50 + 30 * x.regs.length) (fun y hy o h => eLk_len (hl y hy) h) ha
  have h2 := lst_elen (f := fun x : Vt => 50 + 30 * x.cells.length) (fun y hy o h => eVt_len (hv y hy) h) hb
  rw [sum_lk] at h1
  rw [sum_vt] at h2
  simp only [List.length_append]
  omega

theorem num_in {l r : List Int} {n : Int} (h : dNum l = some (n, r)) : In64 n ∧ In64 (n - 1) := by
  have := num_ge h
  unfold In64
  omega
theorem sig_in {l r : List Int} {n : Int} (hl : isB l) (h : dSig l = some (n, r)) : In64 n ∧ isB r := by
  have e := sig_bw hl h
  obtain ⟨⟨m, r1⟩, hm, g⟩ := Option.map_eq_some_iff.1 h
  simp only [Prod.mk.injEq] at g
  obtain ⟨rfl, rfl⟩ := g
  have h2 := (enc_dB l 0 m r1 hl hm).2.2.2
  refine ⟨zag_in (by simpa using h2), ?_⟩
  rw [e] at hl
  exact hl.right
theorem num_rest {l r : List Int} {n : Int} (hl : isB l) (h : dNum l = some (n, r)) : isB r := by
  obtain ⟨o, _, e⟩ := num_bw hl h 0
  rw [e] at hl
  exact hl.right
theorem in0 : In64 0 := by unfold In64; omega
theorem dSrc_ok {l r : List Int} {x : Sc} (hl : isB l) (h : dSrc l = some (x, r)) : okF x := by
  obtain ⟨⟨k, r1⟩, hk, g1⟩ := Option.bind_eq_some_iff.1 h
  have hk1 := num_in hk
  have hr1 := num_rest hl hk
  simp only at g1
  split at g1
  · split at g1
    · obtain ⟨⟨a, r2⟩, ha, g2⟩ := Option.bind_eq_some_iff.1 g1
      obtain ⟨⟨b, r3⟩, hb, g3⟩ := Option.map_eq_some_iff.1 g2
      simp only [Prod.mk.injEq] at g3
      obtain ⟨rfl, rfl⟩ := g3
      have h1 := sig_in hr1 ha
      exact ⟨in0, h1.1, (sig_in h1.2 hb).1, in0⟩
    · obtain ⟨⟨n, r2⟩, hn, g4⟩ := Option.map_eq_some_iff.1 g1
      simp only [Prod.mk.injEq] at g4
      obtain ⟨rfl, rfl⟩ := g4
      exact ⟨hk1.1, in0, in0, (num_in hn).1⟩
  · cases g1
theorem dL_ok {α : Type} {p : α → Prop} {e : α → Option (List Int)} {d : List Int → Option (α × List Int)} (hb : Bw e d) (h : ∀ l x r, isB l → d l = some (x, r) → p x) : ∀ (n : Nat) (l : List Int) (xs : List α) (r : List Int), isB l → dL d n l = some (xs, r) → ∀ x ∈ xs, p x
  | 0, l, xs, r, _, hd => by
    simp only [dL, Option.some.injEq, Prod.mk.injEq] at hd
    obtain ⟨rfl, rfl⟩ := hd
    simp
  | n + 1, l, xs, r, hl, hd => by
    simp only [dL] at hd
    obtain ⟨⟨x, r1⟩, hx, hd⟩ := Option.bind_eq_some_iff.1 hd
    obtain ⟨⟨ys, r2⟩, hys, he⟩ := Option.map_eq_some_iff.1 hd
    simp only [Prod.mk.injEq] at he
    obtain ⟨rfl, rfl⟩ := he
    have h1 := h l x r1 hl hx
    obtain ⟨a, ha, rfl⟩ := hb l x r1 hl hx
    have h2 := dL_ok hb h n r1 ys r2 hl.right hys
    intro y hy
    rcases List.mem_cons.1 hy with rfl | hy
    · exact h1
    · exact h2 y hy
theorem lst_dok {α : Type} {p : α → Prop} {e : α → Option (List Int)} {d : List Int → Option (α × List Int)} (hb : Bw e d) (h : ∀ l x r, isB l → d l = some (x, r) → p x) {l r : List Int} {xs : List α} (hl : isB l) (hd : ((dNum l).bind fun n => dL d n.1.toNat n.2) = some (xs, r)) : ∀ x ∈ xs, p x := by
  obtain ⟨⟨n, r1⟩, hn, g⟩ := Option.bind_eq_some_iff.1 hd
  exact dL_ok hb h _ _ _ _ (num_rest hl hn) g
theorem dLk_ok (l : List Int) (x : Lk) (r : List Int) (hl : isB l) (h : dLk l = some (x, r)) : okL x := by
  obtain ⟨⟨a, r1⟩, ha, g1⟩ := Option.bind_eq_some_iff.1 h
  obtain ⟨⟨b, r2⟩, hb, g2⟩ := Option.bind_eq_some_iff.1 g1
  obtain ⟨⟨c, r3⟩, hc, g3⟩ := Option.bind_eq_some_iff.1 g2
  obtain ⟨⟨d, r4⟩, hd, g4⟩ := Option.bind_eq_some_iff.1 g3
  obtain ⟨⟨s, r5⟩, hs, g5⟩ := Option.map_eq_some_iff.1 g4
  simp only [Prod.mk.injEq] at g5
  obtain ⟨rfl, rfl⟩ := g5
  have l1 := num_rest hl ha
  have l2 := num_rest l1 hb
  have l3 := num_rest l2 hc
  have l4 := num_rest l3 hd
  exact ⟨(num_in ha).2, (num_in hb).1, (num_in hc).1, (num_in hd).2, lst_dok src_bw (fun _ _ _ hl h => dSrc_ok hl h) l4 hs⟩
theorem dVt_ok (l : List Int) (x : Vt) (r : List Int) (hl : isB l) (h : dVt l = some (x, r)) : okV x := by
  obtain ⟨⟨a, r1⟩, ha, g1⟩ := Option.bind_eq_some_iff.1 h
  obtain ⟨⟨s, r5⟩, hs, g2⟩ := Option.map_eq_some_iff.1 g1
  simp only [Prod.mk.injEq] at g2
  obtain ⟨rfl, rfl⟩ := g2
  exact ⟨(num_in ha).1, lst_dok src_bw (fun _ _ _ hl h => dSrc_ok hl h) (num_rest hl ha) hs⟩
theorem dAll_ok {l : List Int} {ls : List Lk} {vs : List Vt} (hl : isB l) (h : dAll l = some (ls, vs)) : (∀ x ∈ ls, okL x) ∧ ∀ x ∈ vs, okV x := by
  obtain ⟨⟨xs, r⟩, h1, g1⟩ := Option.bind_eq_some_iff.1 h
  obtain ⟨⟨ys, r2⟩, h2, g2⟩ := Option.bind_eq_some_iff.1 g1
  split at g2
  · simp only [Option.some.injEq, Prod.mk.injEq] at g2
    obtain ⟨rfl, rfl⟩ := g2
    have h3 : isB r := by
      obtain ⟨a, ha, rfl⟩ := (lst_bw lk_bw) _ _ _ hl h1
      exact hl.right
    exact ⟨lst_dok lk_bw dLk_ok hl h1, lst_dok vt_bw dVt_ok h3 h2⟩
  · cases g2

/-- Virtual things that are held, with their cells, may be read. -/
theorem mk_rdv {v : Value} {ps : List Vp} {lc dc : Ck} (hl : Sl 76 2 v ps.length (ps.flatMap vpC) lc) (hr : Rgv ps dc) {w : World} (hp : Hp (lc ++ dc) w) : RdV (· ∈ ks (lc ++ dc)) v (ps.map (·.1)) w := by
  obtain ⟨a, cap, hv, hall⟩ := sl_rd (s := 2) (F := vpC) (fun _ => rfl) (by decide) hl (Hp.left hp)
  refine ⟨a, cap, by rw [List.length_map]; exact hv, fun i l hi => ?_⟩
  rw [List.getElem?_map] at hi
  obtain ⟨p, hpi, rfl⟩ := Option.map_eq_some_iff.1 hi
  obtain ⟨b, off, ha, hb, hat⟩ := hall i p hpi
  refine ⟨b, off, p.2, ha, ?_, hat, (hr p (List.mem_of_getElem? hpi) w (Hp.right hp)).mono fun b hb => ?_⟩
  · simp [ks] at hb ⊢; exact .inl hb
  · simp [ks] at hb ⊢; exact .inr hb
theorem flat_by8 (l : List Int) : by8 l = l.flatMap fun x => [Value.int .u8 x] := by
  induction l with
  | nil => rfl
  | cons x l ih => simp [by8] at ih ⊢; exact ih
/-- Bytes that are held may be read. -/
theorem mk_rb {v : Value} {l : List Int} {c : Ck} (h : Sl 5 1 v l.length (by8 l) c) {w : World} (hp : Hp c w) : RB (· ∈ ks c) v l w := by
  have hcap : ∃ a cap, v = .slice a l.length cap ∧ l.length ≤ cap := by
    rcases h with ⟨_, ⟨rfl, hn, _, _⟩ | ⟨b, cap, rest, rfl, _, hle, _, _⟩⟩
    · exact ⟨none, 0, by rw [hn], by omega⟩
    · exact ⟨_, _, rfl, hle⟩
  obtain ⟨a, cap, hv, hle⟩ := hcap
  have h2 : Sl 5 1 v l.length (l.flatMap fun x => [Value.int .u8 x]) c := flat_by8 l ▸ h
  obtain ⟨a', cap', hv', hall⟩ := sl_rd (s := 1) (F := fun x => [Value.int .u8 x]) (fun _ => rfl) (by decide) h2 hp
  rw [hv] at hv'
  simp only [Value.slice.injEq] at hv'
  obtain ⟨rfl, _, rfl⟩ := hv'
  refine ⟨a, cap, hv, hle, fun i x hi => ?_⟩
  obtain ⟨b, off, ha, hb, hat⟩ := hall i x hi
  refine ⟨b, off, ha, hb, ?_⟩
  have := hat 0 _ rfl
  simpa using this
end Go.Proofs.Ytfojeengapebmaa
