/-
  Layer 14: KeyOf, the program's and the document's: what it answers for any merge and any green values. No condition.
-/
import Derived.Test.YtcdlbgmmogccaaaHit
import Derived.Test.YtcdlbgmmogccaaaLaws
namespace Go.Proofs.Ytcdlbgmmogccaaa
open Go.Eng

def gok (x : Vector Int 2) : Bool := x.toList.headD 0 == 0 || x.toList.headD 0 == 1
def flt (l : List (Vector Int 2)) : List Int := l.flatMap (·.toList)
def kcells (mg n : Int) (l : List (Vector Int 2)) : List Int := mg :: n :: (flt l ++ List.replicate (8 - 2 * l.length) 0)
/-- A key's cells, and whether there is one. -/
def keyL (mg : Int) (xs : List (Vector Int 2)) : List Int × Bool := if xs.length ≤ 4 && xs.all gok then (kcells mg xs.length xs, true) else (List.replicate 10 0, false)

theorem ic_all (l : List Int) : ((ic l).drop 0).take (ic l).length = ic l := by rw [List.drop_zero, List.take_length]
theorem flt_len : ∀ l : List (Vector Int 2), (flt l).length = 2 * l.length
  | [] => rfl
  | x :: l => by
    have := flt_len l
    simp only [flt, List.flatMap_cons, List.length_append, Vector.length_toList, List.length_cons] at this ⊢
    omega
theorem kcells_len (mg n : Int) {l : List (Vector Int 2)} (h : l.length ≤ 4) : (kcells mg n l).length = 10 := by
  simp only [kcells, List.length_cons, List.length_append, flt_len, List.length_replicate]
  omega
theorem keyL_len (mg : Int) (xs : List (Vector Int 2)) : (keyL mg xs).1.length = 10 := by
  unfold keyL
  split
  · rename_i h
    simp only [Bool.and_eq_true, decide_eq_true_eq] at h
    exact kcells_len _ _ h.1
  · simp
theorem kcells_step (mg n : Int) {l : List (Vector Int 2)} (x : Vector Int 2) :
    spl (ic (kcells mg n l)) (0 + 2 + l.length * 2) (ic x.toList) = ic (kcells mg n (l ++ [x])) := by
  have hx : x.toList.length = 2 := by simp
  have e1 : (kcells mg n l).take (0 + 2 + l.length * 2) = mg :: n :: flt l := by
    rw [show kcells mg n l = (mg :: n :: flt l) ++ List.replicate (8 - 2 * l.length) 0 from rfl]
    rw [show 0 + 2 + l.length * 2 = (mg :: n :: flt l).length from by simp [flt_len]; omega, List.take_left]
  have e2 : (kcells mg n l).drop (0 + 2 + l.length * 2 + 2) = List.replicate (8 - 2 * (l.length + 1)) 0 := by
    rw [show kcells mg n l = (mg :: n :: flt l) ++ List.replicate (8 - 2 * l.length) 0 from rfl]
    rw [show 0 + 2 + l.length * 2 + 2 = (mg :: n :: flt l).length + 2 from by simp [flt_len]; omega, List.drop_length_add_append, List.drop_replicate]
    congr 1
  unfold spl
  rw [ic_length, hx, ic_take, ic_drop, e1, e2, ← ic_app, ← ic_app]
  congr 1
  simp [kcells, flt]
theorem mk10 {l : List Int} (h : l.length = 10) : ∃ k : Ky, k.toList = l := ⟨⟨l.toArray, by simpa using h⟩, by simp [Vector.toList]⟩
theorem all_take {α : Type} {xs : List α} {p : α → Bool} {i : Nat} {x : α} (h : (xs.take i).all p = true) (hi : xs[i]? = some x) (hx : p x = true) : (xs.take (i + 1)).all p = true := by
  rw [List.take_add_one, hi, List.all_append, h]
  simp [hx]
theorem all_not {α : Type} {xs : List α} {p : α → Bool} {i : Nat} {x : α} (hi : xs[i]? = some x) (hx : p x = false) : xs.all p = false := by
  rw [List.all_eq_false]
  exact ⟨x, List.mem_of_getElem? hi, by simp [hx]⟩
theorem len_small {n : Nat} (h : n ≤ maxLen) : (n : Int) ≤ 9223372036854775807 := by
  have : maxLen ≤ 9223372036854775807 := by decide +kernel
  omega

abbrev KeyPost (mg : Int) (xs : List (Vector Int 2)) (r : Value) (c : Ck) : Prop := ∃ k : Ky, k.toList = (keyL mg xs).1 ∧ r = .tuple #[encV k, .bool (keyL mg xs).2] ∧ c = []

/-- KeyOf: P14.1 (function 10). -/
theorem f10_calls (mg : Int) (v : Value) (xs : List (Vector Int 2)) : Ctr Try.prog 10 #[.int .i64 mg, v] [] (fun w => Arg 2 w v xs) (KeyPost mg xs) := by
  intro w0 hp harg
  have hs : St w0 (ks []) [] w0 := St.start w0
  obtain ⟨⟨a, cap, rfl, hall⟩, hmx, hrng⟩ := harg
  have hmx := len_small hmx
  refine calls_W (n := 39) Try.func10 rfl Try.ntmps10 (by simp) ?_
  refine W_seq ?_
  -- region 0
  refine W_region (by decide +kernel) ?_
  refine sq_e rfl (o_alloc hs ty28 ?_); intro b1 w hs
  refine sq_r r_assign rfl ?_
  refine sq_z ?_
  refine W_seq ?_
  -- region 1
  refine W_region (by decide +kernel) ?_
  refine sq_r r_move rfl ?_
  refine sq_r r_move rfl ?_
  refine sq_r (r_lenS Try.underlying22 rfl) rfl ?_
  refine sq_r (r_build (v := .agg (ic [mg, xs.length, 0, 0, 0, 0, 0, 0, 0, 0]).toArray) (by kernel_rfl)) rfl ?_
  refine sq_e rfl (o_alloc hs ty28 ?_); intro b2 w hs
  refine sq_e rfl (o_store (i := 1) (vs := ic [mg, xs.length, 0, 0, 0, 0, 0, 0, 0, 0]) hs rfl rfl ty28 rfl (ic_one _) (by simp) ?_); intro w hs
  refine sq_z ?_
  have hs : St w0 (ks []) [[(b1, cb (ic (List.replicate 10 0)) 28)], [(b2, cb (ic (kcells mg xs.length [])) 28)]] w := hs.cast rfl
  refine W_seq ?_
  refine W_seq ?_
  -- region 2
  refine W_region (by decide +kernel) ?_
  refine sq_r r_move rfl ?_
  refine sq_r (r_lenS Try.underlying22 rfl) rfl ?_
  refine sq_r (r_cmp rfl rfl rfl) rfl ?_
  refine sq_z ?_
  -- IF ('tmp', 15)
  refine W_cond rfl rfl (fun hc => ?_) (fun hc => ?_)
  · have hlen : ¬ xs.length ≤ 4 := by have := of_decide_eq_true hc; omega
    refine W_seq ?_
    -- region 3
    refine W_region (by decide +kernel) ?_
    refine sq_r (r_build (v := .agg (ic (List.replicate 10 0)).toArray) (by kernel_rfl)) rfl ?_
    refine sq_e rfl (o_store (i := 0) (vs := ic (List.replicate 10 0)) hs rfl rfl ty28 rfl (ic_one _) (by simp) ?_); intro w hs
    refine sq_r r_assign rfl ?_
    refine sq_z ?_
    refine W_ret ?_
    repeat with_reducible first | refine thenQ_ret ?_ | refine blockQ_ret ?_
    -- RET
    obtain ⟨k0, hk0⟩ := mk10 (l := List.replicate 10 0) rfl
    refine retC1 (cs := kc k0) (v := .bool false) rfl (by decide) (by decide) rfl (hs.own (i := 0) (by rw [kc, hk0]; rfl)) (by rw [kc_len]; exact ty28) rfl ?_
    exact fin (c' := []) hs ⟨k0, by rw [hk0, keyL]; simp [hlen], by rw [keyL]; simp [hlen]; rfl, rfl⟩ (by simp)
  ·
    refine W_skip ?_
    have hlen : xs.length ≤ 4 := by have := of_decide_eq_false hc; omega
    refine W_seq ?_
    refine W_seq ?_
    -- region 4
    refine W_region (by decide +kernel) ?_
    refine sq_r r_move rfl ?_
    refine sq_r (r_lenS Try.underlying22 rfl) rfl ?_
    refine sq_r r_move rfl ?_
    refine sq_z ?_
    refine W_block ?_ -- 0
    -- LOOP
    refine W_loop (fun (i : Nat) f w => ∃ g, f = ov [(4, .pointer (some ⟨b1, 0, none⟩)), (6, .pointer (some ⟨b2, 0, none⟩)), (17, .slice a xs.length cap), (18, .int .i64 xs.length), (19, .int .i64 i)] g ∧ i ≤ xs.length ∧ (xs.take i).all gok = true ∧
      St w0 (ks []) [[(b1, cb (ic (List.replicate 10 0)) 28)], [(b2, cb (ic (kcells mg xs.length (xs.take i))) 28)]] w) (fun i => xs.length - i) 0 ?_ ?_
    · exact ⟨_, ov_self ⟨rfl, rfl, rfl, rfl, rfl, trivial⟩, Nat.zero_le _, rfl, hs⟩
    rintro i f w ⟨g, rfl, hi, hok, hs⟩
    refine W_seq ?_
    -- region 5
    refine W_region (by decide +kernel) ?_
    refine sq_r (r_cmp rfl rfl rfl) rfl ?_
    refine sq_z ?_
    refine W_seq ?_
    -- IF ('tmp', 20)
    refine W_cond rfl rfl (fun hc => ?_) (fun hc => ?_)
    · have hlt : i < xs.length := by have := of_decide_eq_true hc; omega
      obtain ⟨x, hx⟩ : ∃ x, xs[i]? = some x := ⟨_, List.getElem?_eq_getElem hlt⟩
      obtain ⟨b, off, rfl, hb, hat⟩ := hall i x hx
      have hxl : x.toList.length = 2 := by simp
      obtain ⟨p, q, hpq⟩ : ∃ p q, x.toList = [p, q] := by
        match h : x.toList, hxl with
        | [p, q], _ => exact ⟨p, q, rfl⟩
      refine W_skip ?_
      refine W_seq ?_
      refine W_block ?_ -- 1
      refine W_seq ?_
      -- region 6
      refine W_region (by decide +kernel) ?_
      refine sq_r r_move rfl ?_
      refine sq_r (r_index rfl rfl sl22 (by omega) (by omega)) rfl ?_
      refine sq_r (r_loadN (vs := ic x.toList) rfl ty25 (by simp) (hs.oldAt hb (by simp [ks]) hat)) rfl ?_
      refine sq_e rfl (o_alloc hs ty25 ?_); intro b3 w hs
      refine sq_r r_assign rfl ?_
      refine sq_e rfl (o_store (i := 2) (vs := ic x.toList) hs rfl rfl (by rw [ic_length, hxl]; exact ty25) rfl (ic_one _) (by simp) ?_); intro w hs
      refine sq_z ?_
      have e0 : spl [Value.int .i64 0, .int .i64 0] 0 (ic x.toList) = ic x.toList := by rw [hpq]; rfl
      have hs : St w0 (ks []) [[(b1, cb (ic (List.replicate 10 0)) 28)], [(b2, cb (ic (kcells mg xs.length (xs.take i))) 28)], [(b3, cb (ic x.toList) 25)]] w := hs.cast (by simp only [e0]; rfl)
      have hkind : (ic x.toList)[0]? = some (.int .i64 p) := by rw [hpq]; rfl
      refine W_seq ?_
      refine W_mid (M := fun f w => ∃ g, f = ov [(4, .pointer (some ⟨b1, 0, none⟩)), (6, .pointer (some ⟨b2, 0, none⟩)), (7, .int .i64 i), (8, .pointer (some ⟨b3, 0, none⟩)), (17, .slice (some ⟨b, off, none⟩) xs.length cap), (18, .int .i64 xs.length), (19, .int .i64 i), (31, .bool (!gok x))] g ∧
        St w0 (ks []) [[(b1, cb (ic (List.replicate 10 0)) 28)], [(b2, cb (ic (kcells mg xs.length (xs.take i))) 28)], [(b3, cb (ic x.toList) 25)]] w) ?_ (fun f w hM => ?_)
      · -- region 7
        refine W_region (by decide +kernel) ?_
        refine sq_r (r_field rfl fa25_0) rfl ?_
        refine sq_r (r_load1 rfl ty3 (At.one (hs.own (i := 2) rfl) hkind)) rfl ?_
        by_cases hp0 : p = 0
        · refine sq_r (r_cmp (r := false) rfl rfl (by simp [cmpB, hp0])) rfl ?_
          refine sq_r r_move rfl ?_
          refine sq_n rfl ?_
          refine sq_n rfl ?_
          refine sq_n rfl ?_
          refine sq_r (r_pick rfl) rfl ?_
          refine sq_z ?_
          exact ⟨_, ov_self ⟨rfl, rfl, rfl, rfl, rfl, rfl, rfl, by rw [show gok x = true from by rw [gok, hpq, hp0]; rfl]; rfl, trivial⟩, hs⟩
        · refine sq_r (r_cmp (r := true) rfl rfl (by simp [cmpB, hp0])) rfl ?_
          refine sq_r r_move rfl ?_
          refine sq_r (r_field rfl fa25_0) rfl ?_ /- GUARD 3 True -/
          refine sq_r (r_load1 rfl ty3 (At.one (hs.own (i := 2) rfl) hkind)) rfl ?_ /- GUARD 3 True -/
          refine sq_r (r_cmp rfl rfl rfl) rfl ?_ /- GUARD 3 True -/
          refine sq_r (r_pick rfl) rfl ?_
          refine sq_z ?_
          exact ⟨_, ov_self ⟨rfl, rfl, rfl, rfl, rfl, rfl, rfl, by rw [show gok x = (p == 1) from by rw [gok, hpq]; simp [hp0]]; rfl, trivial⟩, hs⟩
      obtain ⟨g, rfl, hs⟩ := hM
      -- IF ('tmp', 31)
      refine W_cond rfl rfl (fun hc => ?_) (fun hc => ?_)
      · refine W_seq ?_
        -- region 8
        refine W_region (by decide +kernel) ?_
        refine sq_r (r_build (v := .agg (ic (List.replicate 10 0)).toArray) (by kernel_rfl)) rfl ?_
        refine sq_e rfl (o_store (i := 0) (vs := ic (List.replicate 10 0)) hs rfl rfl ty28 rfl (ic_one _) (by simp) ?_); intro w hs
        refine sq_r r_assign rfl ?_
        refine sq_z ?_
        refine W_ret ?_
        repeat with_reducible first | refine thenQ_ret ?_ | refine blockQ_ret ?_
        -- RET
        obtain ⟨k0, hk0⟩ := mk10 (l := List.replicate 10 0) rfl
        refine retC1 (cs := kc k0) (v := .bool false) rfl (by decide) (by decide) rfl (hs.own (i := 0) (by rw [kc, hk0]; rfl)) (by rw [kc_len]; exact ty28) rfl ?_
        exact fin (c' := []) hs ⟨k0, by rw [hk0, keyL, all_not hx (by simpa using hc)]; simp, by rw [keyL, all_not hx (by simpa using hc)]; simp; rfl, rfl⟩ (by simp)
      · have hgx : gok x = true := by simpa using hc
        refine W_skip ?_
        -- region 9
        refine W_region (by decide +kernel) ?_
        refine sq_r r_move rfl ?_
        refine sq_r (r_loadN (vs := ic x.toList) rfl ty25 (by simp) (At.of_block (hs.own (i := 2) rfl) (ic_all _))) rfl ?_
        refine sq_r (r_field rfl fa28_2) rfl ?_
        refine sq_r (r_indexA rfl rfl ar26 (by omega) (by omega)) rfl ?_
        have htl : (xs.take i).length = i := by rw [List.length_take]; omega
        refine sq_e rfl (o_store (i := 1) (vs := ic x.toList) hs rfl rfl (by rw [ic_length, hxl]; exact ty25) rfl (ic_one _) (by rw [ic_length, ic_length, hxl, kcells_len _ _ (by omega)]; simp; omega) ?_); intro w hs
        refine sq_z ?_
        have e1 := kcells_step mg xs.length x (l := xs.take i)
        rw [htl] at e1
        have e2 : xs.take (i + 1) = xs.take i ++ [x] := by rw [List.take_add_one, hx]; rfl
        have hs : St w0 (ks []) [[(b1, cb (ic (List.replicate 10 0)) 28)], [(b2, cb (ic (kcells mg xs.length (xs.take (i + 1)))) 28)]] w := (hs.mask [true, true, false]).cast (by rw [e2, ← e1]; simp; rfl)
        -- region 10
        refine W_region (by decide +kernel) ?_
        refine sq_r (r_add rfl rfl (wrap_small (by omega) (by omega))) rfl ?_
        refine sq_r r_move rfl ?_
        refine sq_z ?_
        exact ⟨i + 1, ⟨_, ov_self ⟨rfl, rfl, rfl, rfl, rfl, trivial⟩, by omega, all_take hok hx hgx, hs⟩, by omega⟩
    · have hiN : i = xs.length := by have := of_decide_eq_false hc; omega
      subst hiN
      rw [List.take_length] at hok hs
      refine W_exit ?_ -- 0
      refine W_seq ?_
      -- region 11
      refine W_region (by decide +kernel) ?_
      refine sq_r (r_loadN (vs := ic (kcells mg xs.length xs)) rfl ty28 (by rw [ic_length, kcells_len _ _ hlen]) (At.of_block (hs.own (i := 1) rfl) (ic_all _))) rfl ?_
      refine sq_e rfl (o_store (i := 0) (vs := ic (kcells mg xs.length xs)) hs rfl rfl (by rw [ic_length, kcells_len _ _ hlen]; exact ty28) rfl (ic_one _) (by rw [ic_length, kcells_len _ _ hlen]; simp) ?_); intro w hs
      refine sq_r r_assign rfl ?_
      refine sq_z ?_
      refine W_ret ?_
      have hkl := kcells_len mg xs.length hlen
      obtain ⟨k, hk⟩ := mk10 hkl
      have e3 : spl (ic (List.replicate 10 0)) 0 (ic (kcells mg xs.length xs)) = kc k := by
        unfold spl
        rw [ic_length, hkl, ic_drop, List.drop_of_length_le (by simp), kc, hk]
        simp [ic]
      refine retC1 (cs := kc k) (v := .bool true) rfl (by decide) (by decide) rfl (hs.own (i := 0) (by simp only [← e3]; rfl)) (by rw [kc_len]; exact ty28) rfl ?_
      exact fin (c' := []) hs ⟨k, by rw [hk, keyL, hok]; simp [hlen], by rw [keyL, hok]; simp [hlen]; rfl, rfl⟩ (by simp)

/-- KeyOf: P14.1 (function 11). -/
theorem f11_calls (mg : Int) (v : Value) (xs : List (Vector Int 2)) : Ctr Try.prog 11 #[.int .i64 mg, v] [] (fun w => Arg 2 w v xs) (KeyPost mg xs) := by
  intro w0 hp harg
  have hs : St w0 (ks []) [] w0 := St.start w0
  obtain ⟨⟨a, cap, rfl, hall⟩, hmx, hrng⟩ := harg
  have hmx := len_small hmx
  refine calls_W (n := 39) Try.func11 rfl Try.ntmps11 (by simp) ?_
  refine W_seq ?_
  -- region 0
  refine W_region (by decide +kernel) ?_
  refine sq_e rfl (o_alloc hs ty28 ?_); intro b1 w hs
  refine sq_r r_assign rfl ?_
  refine sq_z ?_
  refine W_seq ?_
  refine W_seq ?_
  -- region 1
  refine W_region (by decide +kernel) ?_
  refine sq_r r_move rfl ?_
  refine sq_r (r_lenS Try.underlying22 rfl) rfl ?_
  refine sq_r (r_cmp rfl rfl rfl) rfl ?_
  refine sq_z ?_
  -- IF ('tmp', 11)
  refine W_cond rfl rfl (fun hc => ?_) (fun hc => ?_)
  · have hlen : ¬ xs.length ≤ 4 := by have := of_decide_eq_true hc; omega
    have hs : St w0 (ks []) [[(b1, cb (ic (List.replicate 10 0)) 28)]] w := hs.cast rfl
    refine W_seq ?_
    -- region 2
    refine W_region (by decide +kernel) ?_
    refine sq_r (r_build (v := .agg (ic (List.replicate 10 0)).toArray) (by kernel_rfl)) rfl ?_
    refine sq_e rfl (o_store (i := 0) (vs := ic (List.replicate 10 0)) hs rfl rfl ty28 rfl (ic_one _) (by simp) ?_); intro w hs
    refine sq_r r_assign rfl ?_
    refine sq_z ?_
    refine W_ret ?_
    repeat with_reducible first | refine thenQ_ret ?_ | refine blockQ_ret ?_
    -- RET
    obtain ⟨k0, hk0⟩ := mk10 (l := List.replicate 10 0) rfl
    refine retC1 (cs := kc k0) (v := .bool false) rfl (by decide) (by decide) rfl (hs.own (i := 0) (by rw [kc, hk0]; rfl)) (by rw [kc_len]; exact ty28) rfl ?_
    exact fin (c' := []) hs ⟨k0, by rw [hk0, keyL]; simp [hlen], by rw [keyL]; simp [hlen]; rfl, rfl⟩ (by simp)
  ·
    refine W_skip ?_
    have hlen : xs.length ≤ 4 := by have := of_decide_eq_false hc; omega
    refine W_seq ?_
    -- region 3
    refine W_region (by decide +kernel) ?_
    refine sq_r r_move rfl ?_
    refine sq_r r_move rfl ?_
    refine sq_r (r_lenS Try.underlying22 rfl) rfl ?_
    refine sq_r (r_build (v := .agg (ic [mg, xs.length, 0, 0, 0, 0, 0, 0, 0, 0]).toArray) (by kernel_rfl)) rfl ?_
    refine sq_e rfl (o_alloc hs ty28 ?_); intro b2 w hs
    refine sq_e rfl (o_store (i := 1) (vs := ic [mg, xs.length, 0, 0, 0, 0, 0, 0, 0, 0]) hs rfl rfl ty28 rfl (ic_one _) (by simp) ?_); intro w hs
    refine sq_z ?_
    have hs : St w0 (ks []) [[(b1, cb (ic (List.replicate 10 0)) 28)], [(b2, cb (ic (kcells mg xs.length [])) 28)]] w := hs.cast rfl
    refine W_seq ?_
    refine W_seq ?_
    -- region 4
    refine W_region (by decide +kernel) ?_
    refine sq_r r_move rfl ?_
    refine sq_r (r_lenS Try.underlying22 rfl) rfl ?_
    refine sq_r r_move rfl ?_
    refine sq_z ?_
    refine W_block ?_ -- 0
    -- LOOP
    refine W_loop (fun (i : Nat) f w => ∃ g, f = ov [(4, .pointer (some ⟨b1, 0, none⟩)), (6, .pointer (some ⟨b2, 0, none⟩)), (17, .slice a xs.length cap), (18, .int .i64 xs.length), (19, .int .i64 i)] g ∧ i ≤ xs.length ∧ (xs.take i).all gok = true ∧
      St w0 (ks []) [[(b1, cb (ic (List.replicate 10 0)) 28)], [(b2, cb (ic (kcells mg xs.length (xs.take i))) 28)]] w) (fun i => xs.length - i) 0 ?_ ?_
    · exact ⟨_, ov_self ⟨rfl, rfl, rfl, rfl, rfl, trivial⟩, Nat.zero_le _, rfl, hs⟩
    rintro i f w ⟨g, rfl, hi, hok, hs⟩
    refine W_seq ?_
    -- region 5
    refine W_region (by decide +kernel) ?_
    refine sq_r (r_cmp rfl rfl rfl) rfl ?_
    refine sq_z ?_
    refine W_seq ?_
    -- IF ('tmp', 20)
    refine W_cond rfl rfl (fun hc => ?_) (fun hc => ?_)
    · have hlt : i < xs.length := by have := of_decide_eq_true hc; omega
      obtain ⟨x, hx⟩ : ∃ x, xs[i]? = some x := ⟨_, List.getElem?_eq_getElem hlt⟩
      obtain ⟨b, off, rfl, hb, hat⟩ := hall i x hx
      have hxl : x.toList.length = 2 := by simp
      obtain ⟨p, q, hpq⟩ : ∃ p q, x.toList = [p, q] := by
        match h : x.toList, hxl with
        | [p, q], _ => exact ⟨p, q, rfl⟩
      refine W_skip ?_
      refine W_seq ?_
      refine W_block ?_ -- 1
      refine W_seq ?_
      -- region 6
      refine W_region (by decide +kernel) ?_
      refine sq_r r_move rfl ?_
      refine sq_r (r_index rfl rfl sl22 (by omega) (by omega)) rfl ?_
      refine sq_r (r_loadN (vs := ic x.toList) rfl ty25 (by simp) (hs.oldAt hb (by simp [ks]) hat)) rfl ?_
      refine sq_e rfl (o_alloc hs ty25 ?_); intro b3 w hs
      refine sq_r r_assign rfl ?_
      refine sq_e rfl (o_store (i := 2) (vs := ic x.toList) hs rfl rfl (by rw [ic_length, hxl]; exact ty25) rfl (ic_one _) (by simp) ?_); intro w hs
      refine sq_z ?_
      have e0 : spl [Value.int .i64 0, .int .i64 0] 0 (ic x.toList) = ic x.toList := by rw [hpq]; rfl
      have hs : St w0 (ks []) [[(b1, cb (ic (List.replicate 10 0)) 28)], [(b2, cb (ic (kcells mg xs.length (xs.take i))) 28)], [(b3, cb (ic x.toList) 25)]] w := hs.cast (by simp only [e0]; rfl)
      have hkind : (ic x.toList)[0]? = some (.int .i64 p) := by rw [hpq]; rfl
      refine W_seq ?_
      refine W_mid (M := fun f w => ∃ g, f = ov [(4, .pointer (some ⟨b1, 0, none⟩)), (6, .pointer (some ⟨b2, 0, none⟩)), (7, .int .i64 i), (8, .pointer (some ⟨b3, 0, none⟩)), (17, .slice (some ⟨b, off, none⟩) xs.length cap), (18, .int .i64 xs.length), (19, .int .i64 i), (31, .bool (!gok x))] g ∧
        St w0 (ks []) [[(b1, cb (ic (List.replicate 10 0)) 28)], [(b2, cb (ic (kcells mg xs.length (xs.take i))) 28)], [(b3, cb (ic x.toList) 25)]] w) ?_ (fun f w hM => ?_)
      · -- region 7
        refine W_region (by decide +kernel) ?_
        refine sq_r (r_field rfl fa25_0) rfl ?_
        refine sq_r (r_load1 rfl ty3 (At.one (hs.own (i := 2) rfl) hkind)) rfl ?_
        by_cases hp0 : p = 0
        · refine sq_r (r_cmp (r := false) rfl rfl (by simp [cmpB, hp0])) rfl ?_
          refine sq_r r_move rfl ?_
          refine sq_n rfl ?_
          refine sq_n rfl ?_
          refine sq_n rfl ?_
          refine sq_r (r_pick rfl) rfl ?_
          refine sq_z ?_
          exact ⟨_, ov_self ⟨rfl, rfl, rfl, rfl, rfl, rfl, rfl, by rw [show gok x = true from by rw [gok, hpq, hp0]; rfl]; rfl, trivial⟩, hs⟩
        · refine sq_r (r_cmp (r := true) rfl rfl (by simp [cmpB, hp0])) rfl ?_
          refine sq_r r_move rfl ?_
          refine sq_r (r_field rfl fa25_0) rfl ?_ /- GUARD 3 True -/
          refine sq_r (r_load1 rfl ty3 (At.one (hs.own (i := 2) rfl) hkind)) rfl ?_ /- GUARD 3 True -/
          refine sq_r (r_cmp rfl rfl rfl) rfl ?_ /- GUARD 3 True -/
          refine sq_r (r_pick rfl) rfl ?_
          refine sq_z ?_
          exact ⟨_, ov_self ⟨rfl, rfl, rfl, rfl, rfl, rfl, rfl, by rw [show gok x = (p == 1) from by rw [gok, hpq]; simp [hp0]]; rfl, trivial⟩, hs⟩
      obtain ⟨g, rfl, hs⟩ := hM
      -- IF ('tmp', 31)
      refine W_cond rfl rfl (fun hc => ?_) (fun hc => ?_)
      · refine W_seq ?_
        -- region 8
        refine W_region (by decide +kernel) ?_
        refine sq_r (r_build (v := .agg (ic (List.replicate 10 0)).toArray) (by kernel_rfl)) rfl ?_
        refine sq_e rfl (o_store (i := 0) (vs := ic (List.replicate 10 0)) hs rfl rfl ty28 rfl (ic_one _) (by simp) ?_); intro w hs
        refine sq_r r_assign rfl ?_
        refine sq_z ?_
        refine W_ret ?_
        repeat with_reducible first | refine thenQ_ret ?_ | refine blockQ_ret ?_
        -- RET
        obtain ⟨k0, hk0⟩ := mk10 (l := List.replicate 10 0) rfl
        refine retC1 (cs := kc k0) (v := .bool false) rfl (by decide) (by decide) rfl (hs.own (i := 0) (by rw [kc, hk0]; rfl)) (by rw [kc_len]; exact ty28) rfl ?_
        exact fin (c' := []) hs ⟨k0, by rw [hk0, keyL, all_not hx (by simpa using hc)]; simp, by rw [keyL, all_not hx (by simpa using hc)]; simp; rfl, rfl⟩ (by simp)
      · have hgx : gok x = true := by simpa using hc
        refine W_skip ?_
        -- region 9
        refine W_region (by decide +kernel) ?_
        refine sq_r r_move rfl ?_
        refine sq_r (r_loadN (vs := ic x.toList) rfl ty25 (by simp) (At.of_block (hs.own (i := 2) rfl) (ic_all _))) rfl ?_
        refine sq_r (r_field rfl fa28_2) rfl ?_
        refine sq_r (r_indexA rfl rfl ar26 (by omega) (by omega)) rfl ?_
        have htl : (xs.take i).length = i := by rw [List.length_take]; omega
        refine sq_e rfl (o_store (i := 1) (vs := ic x.toList) hs rfl rfl (by rw [ic_length, hxl]; exact ty25) rfl (ic_one _) (by rw [ic_length, ic_length, hxl, kcells_len _ _ (by omega)]; simp; omega) ?_); intro w hs
        refine sq_z ?_
        have e1 := kcells_step mg xs.length x (l := xs.take i)
        rw [htl] at e1
        have e2 : xs.take (i + 1) = xs.take i ++ [x] := by rw [List.take_add_one, hx]; rfl
        have hs : St w0 (ks []) [[(b1, cb (ic (List.replicate 10 0)) 28)], [(b2, cb (ic (kcells mg xs.length (xs.take (i + 1)))) 28)]] w := (hs.mask [true, true, false]).cast (by rw [e2, ← e1]; simp; rfl)
        -- region 10
        refine W_region (by decide +kernel) ?_
        refine sq_r (r_add rfl rfl (wrap_small (by omega) (by omega))) rfl ?_
        refine sq_r r_move rfl ?_
        refine sq_z ?_
        exact ⟨i + 1, ⟨_, ov_self ⟨rfl, rfl, rfl, rfl, rfl, trivial⟩, by omega, all_take hok hx hgx, hs⟩, by omega⟩
    · have hiN : i = xs.length := by have := of_decide_eq_false hc; omega
      subst hiN
      rw [List.take_length] at hok hs
      refine W_exit ?_ -- 0
      refine W_seq ?_
      -- region 11
      refine W_region (by decide +kernel) ?_
      refine sq_r (r_loadN (vs := ic (kcells mg xs.length xs)) rfl ty28 (by rw [ic_length, kcells_len _ _ hlen]) (At.of_block (hs.own (i := 1) rfl) (ic_all _))) rfl ?_
      refine sq_e rfl (o_store (i := 0) (vs := ic (kcells mg xs.length xs)) hs rfl rfl (by rw [ic_length, kcells_len _ _ hlen]; exact ty28) rfl (ic_one _) (by rw [ic_length, kcells_len _ _ hlen]; simp) ?_); intro w hs
      refine sq_r r_assign rfl ?_
      refine sq_z ?_
      refine W_ret ?_
      have hkl := kcells_len mg xs.length hlen
      obtain ⟨k, hk⟩ := mk10 hkl
      have e3 : spl (ic (List.replicate 10 0)) 0 (ic (kcells mg xs.length xs)) = kc k := by
        unfold spl
        rw [ic_length, hkl, ic_drop, List.drop_of_length_le (by simp), kc, hk]
        simp [ic]
      refine retC1 (cs := kc k) (v := .bool true) rfl (by decide) (by decide) rfl (hs.own (i := 0) (by simp only [← e3]; rfl)) (by rw [kc_len]; exact ty28) rfl ?_
      exact fin (c' := []) hs ⟨k, by rw [hk, keyL, hok]; simp [hlen], by rw [keyL, hok]; simp [hlen]; rfl, rfl⟩ (by simp)

end Go.Proofs.Ytcdlbgmmogccaaa
