/-
  Layer 14: the document's book (the reference): drop. Conditions: it holds few rows.
-/
import Derived.Test.YtcdlbgmmogccaaaRef
namespace Go.Proofs.Ytcdlbgmmogccaaa
open Go.Eng

theorem cat_seg {α : Type} {F : α → List Value} {s : Nat} (hF : ∀ x, (F x).length = s) (l : List α) (a m : Nat) (rest : List Value) (ha : a ≤ l.length) :
    ((l.flatMap F ++ rest).drop (a * s)).take (((l.drop a).take m).flatMap F).length = ((l.drop a).take m).flatMap F := by
  have e : l.flatMap F ++ rest = (l.take a).flatMap F ++ (((l.drop a).take m).flatMap F ++ (((l.drop a).drop m).flatMap F ++ rest)) := by
    rw [← List.append_assoc, ← List.append_assoc, ← List.flatMap_append, ← List.flatMap_append, List.append_assoc (l.take a), List.take_append_drop, List.take_append_drop]
  have hl : ((l.take a).flatMap F).length = a * s := by rw [cat_len hF, List.length_take, Nat.min_eq_left ha]
  rw [e, ← hl, List.drop_left, List.take_left]

set_option maxHeartbeats 1000000 in
theorem f27_calls (rb : Nat) (s : RS) (i : Nat) (c : Ck) (hc : RB rb s c) (hn : s.rows.length ≤ 4000) (hi : i < s.rows.length) : Ctr Try.prog 27 #[.pointer (some ⟨rb, 0, none⟩), .int .i64 i] c (fun _ => True)
    (fun _ c' => RB rb { s with rows := s.rows.eraseIdx i } c') := by
  intro w0 hp hro
  obtain ⟨rv, ov', rc, oc, hr, ho, rfl⟩ := hc
  obtain ⟨x, hx⟩ : ∃ x, s.rows[i]? = some x := ⟨_, List.getElem?_eq_getElem hi⟩
  obtain ⟨b, cap, rest, rfl, rfl, _, _⟩ := hr.get rowF_len hx (by decide)
  have hcap : s.rows.length ≤ cap := by
    rcases hr.2 with ⟨h, _⟩ | ⟨b', cap', rest', h1, _, h3, _, _⟩
    · cases h
    · cases h1; exact h3
  have hcap2 : cap ≤ maxLen := by
    rcases hr.2 with ⟨h, _⟩ | ⟨b', cap', rest', h1, _, _, h4, _⟩
    · cases h
    · cases h1; exact h4
  have hmax : 4000 ≤ maxLen := by decide +kernel
  have hs : St w0 (ks (rbC rb (.slice (some ⟨b, 0, none⟩) s.rows.length cap) ov' s.thr ++ ([(b, cb (s.rows.flatMap rowF ++ rest) 63)] ++ oc)))
      [[(rb, cb [.slice (some ⟨b, 0, none⟩) s.rows.length cap, ov', .int .i64 s.thr] 43)], [(b, cb (s.rows.flatMap rowF ++ rest) 63)], [], oc] w0 := (rb_st hp).cast (by simp)
  refine calls_W (n := 22) Try.func27 rfl Try.ntmps27 (by simp) ?_
  -- region 0 DRAWS
  refine W_drawT hs Try.mixed [true, true, false, false] [false, true, false, false] 3 [0, 0, 2, 6, 14, 0, 62, 126, 0, 256, 768, 1792, 0, 4096, 16128, 32766, 65535, 131071, 262143] [7, 15, 18] [0, 1, 2, 3, 4, 5, 8, 9, 10, 11, 12, 13, 6, 14, 7, 15, 16, 17, 18] (by decide +kernel) ?_
  intro w hs; have hR := hs.mask [true, true, false, false]
  refine dq_rp hR rfl rfl rfl (fun w => r_move) ?_
  refine dq_rp hR rfl rfl rfl (fun w => r_move) ?_
  refine dq_rp hR rfl rfl rfl (fun w => r_nilCheck rfl) ?_
  refine dq_rp hR rfl rfl rfl (fun w => r_field rfl fa43_0) ?_
  refine dq_r1 hR rfl rfl (by decide) rfl (fun w hR => r_load1 rfl ty40 (At.one (hR.own (i := 0) rfl) rfl)) ?_
  refine dq_rp hR rfl rfl rfl (fun w => r_move) ?_
  refine dq_rp hR rfl rfl rfl (fun w => r_move) ?_
  refine dq_rp hR rfl rfl rfl (fun w => r_nilCheck rfl) ?_
  refine dq_rp hR rfl rfl rfl (fun w => r_field rfl fa43_0) ?_
  refine dq_r1 hR rfl rfl (by decide) rfl (fun w hR => r_load1 rfl ty40 (At.one (hR.own (i := 0) rfl) rfl)) ?_
  refine dq_rp hR rfl rfl rfl (fun w => r_move) ?_
  refine dq_rp hR rfl rfl rfl (fun w => r_add rfl rfl (wrap_small (by omega) (by omega))) ?_
  refine dq_rp hR rfl rfl rfl (fun w => r_sliceHi sl40 rfl rfl (by omega) (by omega)) ?_
  refine dq_rp hR rfl rfl rfl (fun w => r_sliceLo sl40 rfl rfl (by omega) (by omega)) ?_
  have hA1 : ((s.rows.drop 0).take i).flatMap rowF = (s.rows.take i).flatMap rowF := by rw [List.drop_zero]
  refine dq_e hR rfl rfl rfl (o_append (i := 2) (n := 0) (m := i) (xs := []) (news := ((s.rows.drop 0).take i).flatMap rowF) sl40 ty63 rfl hs rfl rfl rfl (Sl.nil 63 11) ?_ (At.of_block (hs.own (i := 1) rfl) (cat_seg rowF_len s.rows 0 i rest (by omega))) (cat_one rowF_one _) (by omega) (by omega) ?_)
  · rw [cat_len rowF_len, List.length_take, List.drop_zero, Nat.min_eq_left (by omega)]
  intro v1 c1 w hv1 hs
  have hR := hs.mask [true, true, false, false]
  have ei : ((i : Int) + 1).toNat = i + 1 := by omega
  refine dq_e hR rfl rfl rfl (o_append (i := 2) (m := s.rows.length - (i + 1)) (soff := if cap = ((i : Int) + 1).toNat then 0 else 0 + ((i : Int) + 1).toNat * 11) (sb := b) (scap := cap - (i + 1)) (news := ((s.rows.drop (i + 1)).take (s.rows.length - (i + 1))).flatMap rowF) sl40 ty63 rfl hs rfl ?_ rfl hv1 ?_ ?_ (cat_one rowF_one _) (by omega) (by omega) ?_)
  · simp only [ei]; rfl
  · rw [cat_len rowF_len, List.length_take, List.length_drop, Nat.min_self]
  · by_cases h : cap = i + 1
    · have hz : (s.rows.drop (i + 1)).take (s.rows.length - (i + 1)) = [] := by rw [show s.rows.length - (i + 1) = 0 from by omega]; rfl
      rw [hz]
      intro j v hj
      simp at hj
    · rw [ei, if_neg h, Nat.zero_add]
      exact At.of_block (hs.own (i := 1) rfl) (cat_seg rowF_len s.rows (i + 1) _ rest (by omega))
  intro v2 c2 w hv2 hs
  have hR := hs.mask [true, true, false, false]
  refine dq_rp hR rfl rfl rfl (fun w => r_nilCheck rfl) ?_
  refine dq_rp hR rfl rfl rfl (fun w => r_field rfl fa43_0) ?_
  have hone : v2.oneCell' = true := by
    obtain ⟨a2, cap2, rfl⟩ := hv2.len
    rfl
  have hcell : v2.cells = #[v2] := by
    obtain ⟨a2, cap2, rfl⟩ := hv2.len
    rfl
  refine dq_e hR rfl rfl rfl (o_store (i := 0) (vs := [v2]) hs rfl hcell ty40 rfl (by simpa using hone) (by simp) ?_); intro w hs
  have hR := hs.mask [false, true, false, false]
  refine dq_z hR ?_
  have hv : Sl 63 11 v2 (s.rows.eraseIdx i).length ((s.rows.eraseIdx i).flatMap rowF) c2 := by
    have e1 : 0 + i + (s.rows.length - (i + 1)) = (s.rows.eraseIdx i).length := by rw [List.length_eraseIdx, if_pos hi]; omega
    have e2 : [] ++ ((s.rows.drop 0).take i).flatMap rowF ++ ((s.rows.drop (i + 1)).take (s.rows.length - (i + 1))).flatMap rowF = (s.rows.eraseIdx i).flatMap rowF := by
      rw [List.eraseIdx_eq_take_drop_succ, List.flatMap_append, hA1, List.nil_append, List.take_of_length_le (l := s.rows.drop (i + 1)) (by simp)]
    rw [← e1, ← e2]
    exact hv2
  refine ret0 rfl (fin (c' := rbC rb v2 ov' s.thr ++ (c2 ++ oc)) hs ⟨v2, ov', c2, oc, hv, ho, rfl⟩ (by simp [rbC, spl]))

end Go.Proofs.Ytcdlbgmmogccaaa
