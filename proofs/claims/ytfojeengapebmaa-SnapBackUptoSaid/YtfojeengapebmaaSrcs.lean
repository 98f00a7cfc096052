/-
  Layer 17: the writer: sources. Conditions: they are not many; not much is written yet.
-/
import Derived.Test.YtfojeengapebmaaWrite
namespace Go.Proofs.Ytfojeengapebmaa
open Go.Eng

theorem flat45 : flat Try.prog 5 45 2 = true := by kernel_rfl
theorem guard45 : Try.prog.eqGuardType Try.prog.depth 45 = false := by kernel_rfl
abbrev V2 := Vector Int 2
def v2 (a b : Int) : V2 := ⟨#[a, b], rfl⟩
theorem build45 (w : World) : (Instr.build 45 #[]).run Try.prog w = .ok (encV (v2 0 0)) w := by kernel_rfl
theorem eNum_len {n l : Int} {o : List Int} (h : eNum n l = some o) : o.length ≤ 10 := by
  unfold eNum at h
  split at h
  · simp only [Option.some.injEq] at h
    subst h
    refine encB_len 10 _ ?_ (by decide)
    have : (n - l).toNat ≤ 1099511627776 := by omega
    exact Nat.lt_of_le_of_lt this (by decide)
  · cases h
/-- A source's numbers are of the size of an int. -/
def okF (x : Sc) : Prop := In64 x[0] ∧ In64 x[1] ∧ In64 x[2] ∧ In64 x[3]
theorem zig_len {n : Int} (h : In64 n) : (encB (zig n)).length ≤ 10 := encB_len 10 _ (Nat.lt_of_lt_of_le (zig_lt h) (by decide)) (by decide)
theorem eSrc_len {x : Sc} {o : List Int} (hx : okF x) (h : eSrc x = some o) : o.length ≤ 30 := by
  obtain ⟨_, h1, h2, _⟩ := hx
  have l1 := zig_len h1
  have l2 := zig_len h2
  obtain ⟨a, ha, h3⟩ := Option.bind_eq_some_iff.1 h
  have la := eNum_len ha
  split at h3
  · split at h3
    · simp only [Option.some.injEq] at h3
      subst h3
      simp only [List.length_append]
      omega
    · cases h3
  · split at h3
    · obtain ⟨b, hb, rfl⟩ := Option.map_eq_some_iff.1 h3
      have lb := eNum_len hb
      simp only [List.length_append]
      omega
    · cases h3
theorem eL_drop {α : Type} {e : α → Option (List Int)} {xs : List α} {i : Nat} {x : α} (h : xs[i]? = some x) : eL e (xs.drop i) = (e x).bind fun a => (eL e (xs.drop (i + 1))).map (a ++ ·) := by
  obtain ⟨hi, e1⟩ := List.getElem?_eq_some_iff.1 h
  rw [List.drop_eq_getElem_cons hi, e1]
  rfl
theorem eL_bad {α : Type} {e : α → Option (List Int)} {xs : List α} {i : Nat} {x : α} {done : List Int} (h : xs[i]? = some x) (hd : eL e xs = (eL e (xs.drop i)).map (done ++ ·)) (hx : e x = none) : eL e xs = none := by
  rw [hd, eL_drop h, hx]
  rfl
theorem eL_next {α : Type} {e : α → Option (List Int)} {xs : List α} {i : Nat} {x : α} {done o : List Int} (h : xs[i]? = some x) (hd : eL e xs = (eL e (xs.drop i)).map (done ++ ·)) (hx : e x = some o) : eL e xs = (eL e (xs.drop (i + 1))).map ((done ++ o) ++ ·) := by
  rw [hd, eL_drop h, hx]
  simp only [Option.bind_some, Option.map_map]
  congr 1
  funext l
  simp
theorem eL_end {α : Type} {e : α → Option (List Int)} {xs : List α} {done : List Int} (hd : eL e xs = (eL e (xs.drop xs.length)).map (done ++ ·)) : eL e xs = some done := by
  rw [hd, List.drop_length]
  simp [eL]

set_option maxRecDepth 20000 in
set_option maxHeartbeats 4000000 in
theorem f29_calls (wb : Nat) (out : List Int) (c : Ck) (hc : WK wb out c) (sv : Value) (xs : List Sc) (hx64 : ∀ x ∈ xs, okF x) (hn : xs.length ≤ 50000) (ho : out.length + 10 + 30 * xs.length ≤ 2000000) :
    CtrT Try.prog thr 29 #[.pointer (some ⟨wb, 0, none⟩), sv] c (RdS (· ∉ ks c) sv xs) (fun v c' => v = .tuple #[] ∧ ∃ o, eSrcs xs = some o ∧ o.length ≤ 10 + 30 * xs.length ∧ WK wb (out ++ o) c') (eSrcs xs = none) := by
  intro w0 hp hrd
  have hs := hp.st
  have hmax : 4000000 ≤ maxLen := by decide +kernel
  have hrd0 := hrd
  obtain ⟨sa, cap, rfl, hall⟩ := hrd0
  refine calls_W (n := 52) Try.func29 rfl Try.ntmps29 (by simp) ?_
  refine W_seq ?_
  -- region 0
  refine W_region (by decide +kernel) ?_
  refine sq_r r_move rfl ?_
  refine sq_r r_move rfl ?_
  refine sq_r (r_lenS Try.underlying37 rfl) rfl ?_
  refine sq_e rfl (o_callT (i := 0) cb28 rfl rfl (f28_calls wb out c hc xs.length 0 (by constructor <;> omega) (.inl rfl) (by omega)) hs rfl trivial (fun k w hk hb hs => .inr ⟨k, hk, rfl, by unfold eSrcs; rw [hb]; rfl, hs⟩) ?_)
  rintro v c1 w ⟨rfl, a0, ha0, hc1⟩ hs
  have la0 := eNum_len ha0
  refine sq_z ?_
  refine W_seq ?_
  -- region 1
  refine W_region (by decide +kernel) ?_
  refine sq_r r_move rfl ?_
  refine sq_r (r_lenS Try.underlying37 rfl) rfl ?_
  refine sq_r r_move rfl ?_
  refine sq_z ?_
  refine W_block ?_ -- 0
  have hfin : ∀ o, eL eSrc xs = o → eSrcs xs = o.map (a0 ++ ·) := fun o h => by unfold eSrcs; rw [ha0, h]; rfl
  -- LOOP
  refine W_loop (fun (i : Nat) f w => ∃ g done c1, f = ov [(0, .pointer (some ⟨wb, 0, none⟩)), (10, .slice sa xs.length cap), (11, .int .i64 xs.length), (12, .int .i64 i)] g ∧ i ≤ xs.length ∧ eL eSrc xs = (eL eSrc (xs.drop i)).map (done ++ ·) ∧ done.length ≤ 30 * i ∧ WK wb (out ++ (a0 ++ done)) c1 ∧ St w0 (ks c) [c1] w) (fun i => xs.length - i) 0 ?_ ?_
  · exact ⟨_, [], c1, ov_self ⟨rfl, rfl, rfl, rfl, trivial⟩, Nat.zero_le _, by simp, by simp, by simpa using hc1, hs⟩
  clear hs hc1
  rintro i f w ⟨g, done, c1, rfl, hi, hdone, hdl, hc1, hs⟩
  refine W_seq ?_
  -- region 2
  refine W_region (by decide +kernel) ?_
  refine sq_r (r_cmp rfl rfl rfl) rfl ?_
  refine sq_z ?_
  refine W_seq ?_
  refine W_cond rfl rfl (fun hd => ?_) (fun hd => ?_)
  · have hlt : i < xs.length := by have := of_decide_eq_true hd; omega
    obtain ⟨x, hx⟩ : ∃ x, xs[i]? = some x := ⟨_, List.getElem?_eq_getElem hlt⟩
    have hok := hx64 x (List.mem_of_getElem? hx)
    have hlx : ∀ o, eSrc x = some o → o.length ≤ 30 := fun o h => eSrc_len hok h
    have hbad : eSrc x = none → eSrcs xs = none := fun h => hfin none (eL_bad hx hdone h)
    have hnext := fun o => eL_next (o := o) hx hdone
    obtain ⟨b, off, rfl, hBb, hat⟩ := hall i x hx
    obtain ⟨xa, xb, xc, xd, rfl⟩ := sc_ex x
    obtain ⟨n1, n2, n3, n4⟩ : In64 xa ∧ In64 xb ∧ In64 xc ∧ In64 xd := hok
    have hat2 : At w b (off + i * 4) (ic [xa, xb, xc, xd]) := at_keep hs hBb (by simp [ic]) hat
    have hlo : (out ++ (a0 ++ done)).length ≤ out.length + 10 + 30 * i := by simp only [List.length_append]; omega
    refine W_skip ?_
    refine W_mid (M := fun f w => ∃ g o c1, f = ov [(0, .pointer (some ⟨wb, 0, none⟩)), (10, .slice (some ⟨b, off, none⟩) xs.length cap), (11, .int .i64 xs.length), (12, .int .i64 i)] g ∧ eSrc (sc xa xb xc xd) = some o ∧ WK wb (out ++ (a0 ++ (done ++ o))) c1 ∧ St w0 (ks c) [c1] w) ?_ (fun f w hM => ?_)
    · refine W_block ?_ -- 1
      refine W_seq ?_
      -- region 3
      refine W_region (by decide +kernel) ?_
      refine sq_r (r_index rfl rfl sl37 (by omega) (by omega)) rfl ?_
      refine sq_r (r_loadN (vs := ic [xa, xb, xc, xd]) rfl ty69 (by simp [ic]) hat2) rfl ?_
      refine sq_e rfl (o_alloc hs ty69 ?_); intro b5 w hs
      refine sq_e rfl (o_store (i := 1) (vs := ic [xa, xb, xc, xd]) hs rfl rfl ty69 rfl (ic_one _) (by simp [ic]) ?_); intro w hs
      refine sq_z ?_
      have hs : St w0 (ks c) [c1, [(b5, cb (ic [xa, xb, xc, xd]) 69)]] w := hs
      refine W_seq ?_
      -- region 4
      refine W_region (by decide +kernel) ?_
      refine sq_r r_move rfl ?_
      refine sq_r (r_field rfl fa69_0) rfl ?_
      refine sq_r (r_load1 rfl ty3 (At.one (v := .int .i64 xa) (hs.own (i := 1) rfl) rfl)) rfl ?_
      refine sq_e rfl (o_callT (i := 0) cb28 rfl rfl (f28_calls wb _ c1 hc1 xa 0 n1 (.inl rfl) (by omega)) hs rfl trivial (fun k w hk hb hs => .inr ⟨k, hk, rfl, hbad (by rw [eSrc_sc, hb]; rfl), hs⟩) ?_)
      rintro v c2 w ⟨rfl, o1, ho1, hc2⟩ hs
      have lo1 := eNum_len ho1
      have hs : St w0 (ks c) [c2, [(b5, cb (ic [xa, xb, xc, xd]) 69)]] w := hs
      have hes : eSrc (sc xa xb xc xd) = (if xa = 0 then (if xd = 0 then some (o1 ++ (encB (zig xb) ++ encB (zig xc))) else none) else if xa ≤ 2 ∧ xb = 0 ∧ xc = 0 then (eNum xd 0).map (o1 ++ ·) else none) := by rw [eSrc_sc, ho1]; rfl
      refine sq_z ?_
      refine W_seq ?_
      refine W_seq ?_
      -- region 5
      refine W_region (by decide +kernel) ?_
      refine sq_r (r_field rfl fa69_0) rfl ?_
      refine sq_r (r_load1 rfl ty3 (At.one (v := .int .i64 xa) (hs.own (i := 1) rfl) rfl)) rfl ?_
      refine sq_r (r_cmp rfl rfl rfl) rfl ?_
      refine sq_z ?_
      refine W_cond rfl rfl (fun hq => ?_) (fun hq => ?_)
      · have ha : xa = 0 := of_decide_eq_true hq
        rw [if_pos ha] at hes
        refine W_seq ?_
        -- region 6
        refine W_region (by decide +kernel) ?_
        refine sq_r (r_field rfl fa69_2) rfl ?_
        refine sq_r (r_load1 rfl ty3 (At.one (v := .int .i64 xd) (hs.own (i := 1) rfl) rfl)) rfl ?_
        refine sq_r (r_cmp (r := decide (xd = 0)) rfl rfl rfl) rfl ?_
        refine sq_e rfl (o_callT0 cb30 rfl rfl (f30_calls (decide (xd = 0)) 170 (by decide)) hs trivial (fun k w hk hb hs => .inr ⟨k, hk, rfl, hbad (by rw [hes, if_neg (of_decide_eq_false hb)]), hs⟩) ?_)
        rintro v w ⟨rfl, hd0⟩ hs
        rw [if_pos (of_decide_eq_true hd0)] at hes
        refine sq_z ?_
        refine W_seq ?_
        -- region 7
        refine W_region (by decide +kernel) ?_
        refine sq_r r_move rfl ?_
        refine sq_r (r_field rfl fa69_1) rfl ?_
        refine sq_r (r_field rfl fa45_0) rfl ?_
        refine sq_r (r_load1 rfl ty3 (At.one (v := .int .i64 xb) (hs.own (i := 1) rfl) rfl)) rfl ?_
        refine sq_e rfl (o_call (i := 0) cb36 rfl rfl (f36_calls wb _ c2 hc2 xb n2 (by rw [List.length_append]; omega)) hs rfl trivial ?_)
        rintro v c3 w ⟨rfl, hc3⟩ hs
        have lz := zig_len n2
        have hs : St w0 (ks c) [c3, [(b5, cb (ic [xa, xb, xc, xd]) 69)]] w := hs
        refine sq_z ?_
        refine W_seq ?_
        -- region 8
        refine W_region (by decide +kernel) ?_
        refine sq_r r_move rfl ?_
        refine sq_r (r_field rfl fa69_1) rfl ?_
        refine sq_r (r_field rfl fa45_1) rfl ?_
        refine sq_r (r_load1 rfl ty2 (At.one (v := .int .i64 xc) (hs.own (i := 1) rfl) rfl)) rfl ?_
        refine sq_e rfl (o_call (i := 0) cb36 rfl rfl (f36_calls wb _ c3 hc3 xc n3 (by rw [List.length_append, List.length_append]; omega)) hs rfl trivial ?_)
        rintro v c4 w ⟨rfl, hc4⟩ hs
        refine sq_z ?_
        refine W_exit ?_ -- 1
        exact ⟨_, _, c4, ov_self ⟨rfl, rfl, rfl, rfl, trivial⟩, hes, by simpa using hc4, hs.keep (by simp)⟩
      · have ha : ¬ xa = 0 := of_decide_eq_false hq
        rw [if_neg ha] at hes
        refine W_skip ?_
        refine W_seq ?_
        by_cases h2 : xa ≤ 2
        · -- region 9
          refine W_region (by decide +kernel) ?_
          refine sq_r (r_field rfl fa69_0) rfl ?_
          refine sq_r (r_load1 rfl ty3 (At.one (v := .int .i64 xa) (hs.own (i := 1) rfl) rfl)) rfl ?_
          refine sq_r (r_cmp (r := true) rfl rfl (by simp [cmpB, h2])) rfl ?_
          refine sq_r r_move rfl ?_
          refine sq_r (r_field rfl fa69_1) rfl ?_
          refine sq_r (r_loadN (vs := ic [xb, xc]) rfl ty45 (by simp [ic]) (At.of_block (hs.own (i := 1) rfl) (by simp [ic]))) rfl ?_
          refine sq_r (r_buildL (ps := []) rfl (build45 _)) rfl ?_
          refine sq_r (r_eqS (a := v2 xb xc) (b := v2 0 0) Try.underlying45 flat45 (by decide) guard45 rfl rfl) rfl ?_
          refine sq_r (r_pick (b := true) rfl) rfl ?_
          refine sq_e rfl (o_callT0 cb30 rfl rfl (f30_calls (decide (v2 xb xc = v2 0 0)) 170 (by decide)) hs trivial (fun k w hk hb hs => .inr ⟨k, hk, rfl, hbad (by
            rw [hes, if_neg]
            rintro ⟨_, rfl, rfl⟩
            exact of_decide_eq_false hb rfl), hs⟩) ?_)
          rintro v w ⟨rfl, hv0⟩ hs
          have hv0 := of_decide_eq_true hv0
          have hb0 : xb = 0 := congrArg (fun v : V2 => v[0]) hv0
          have hc0 : xc = 0 := congrArg (fun v : V2 => v[1]) hv0
          rw [if_pos ⟨h2, hb0, hc0⟩] at hes
          refine sq_z ?_
          -- region 10
          refine W_region (by decide +kernel) ?_
          refine sq_r r_move rfl ?_
          refine sq_r (r_field rfl fa69_2) rfl ?_
          refine sq_r (r_load1 rfl ty3 (At.one (v := .int .i64 xd) (hs.own (i := 1) rfl) rfl)) rfl ?_
          refine sq_e rfl (o_callT (i := 0) cb28 rfl rfl (f28_calls wb _ c2 hc2 xd 0 n4 (.inl rfl) (by rw [List.length_append]; omega)) hs rfl trivial (fun k w hk hb hs => .inr ⟨k, hk, rfl, hbad (by rw [hes, hb]; rfl), hs⟩) ?_)
          rintro v c3 w ⟨rfl, o2, ho2, hc3⟩ hs
          rw [ho2] at hes
          refine sq_z ?_
          exact ⟨_, _, c3, ov_self ⟨rfl, rfl, rfl, rfl, trivial⟩, hes, by simpa using hc3, hs.keep (by simp)⟩
        · -- region 9
          refine W_region (by decide +kernel) ?_
          refine sq_r (r_field rfl fa69_0) rfl ?_
          refine sq_r (r_load1 rfl ty3 (At.one (v := .int .i64 xa) (hs.own (i := 1) rfl) rfl)) rfl ?_
          refine sq_r (r_cmp (r := false) rfl rfl (by simp [cmpB]; omega)) rfl ?_
          refine sq_r r_move rfl ?_
          refine sq_n rfl ?_
          refine sq_n rfl ?_
          refine sq_n rfl ?_
          refine sq_n rfl ?_
          refine sq_r (r_pick (b := false) rfl) rfl ?_
          refine sq_e rfl (o_callT0 cb30 rfl rfl (f30_calls false 170 (by decide)) hs trivial (fun k w hk hb hs => .inr ⟨k, hk, rfl, hbad (by rw [hes, if_neg fun h => h2 h.1]), hs⟩) ?_)
          rintro v w ⟨_, hd0⟩ hs
          cases hd0
    obtain ⟨g, o, c5, rfl, heo, hc5, hs⟩ := hM
    have lo := hlx _ heo
    -- region 11
    refine W_region (by decide +kernel) ?_
    refine sq_r (r_add rfl rfl (wrap_small (by omega) (by omega))) rfl ?_
    refine sq_r r_move rfl ?_
    refine sq_z ?_
    exact ⟨i + 1, ⟨_, done ++ o, c5, ov_self ⟨rfl, rfl, rfl, rfl, trivial⟩, by omega, hnext o heo, by rw [List.length_append]; omega, hc5, hs⟩, by omega⟩
  · have hin : i = xs.length := by have := of_decide_eq_false hd; omega
    subst hin
    refine W_exit ?_ -- 0
    have h1 := hfin _ (eL_end hdone)
    repeat with_reducible first | refine thenQ_exit ?_ | refine blockQ_exit ?_
    refine ret0 rfl ?_
    exact finT (c' := c1) hs ⟨rfl, a0 ++ done, h1, by rw [List.length_append]; omega, hc1⟩ (by simp)

end Go.Proofs.Ytfojeengapebmaa
