/-
  Part of the proof: L37. It states what the functions do; no further condition.
-/
import Derived.Test.YtoekfjgikicclaaL32
set_option linter.unusedVariables false
set_option linter.unusedSimpArgs false
namespace Go.Proofs.Ytoekfjgikicclaa
set_option linter.unusedVariables false
open Go.Sh Go.RowKit
set_option maxRecDepth 100000
/-! ### The document's digits: trimmed, compared, added, taken away -/
abbrev D8 (l : List Int) : Prop := Dg 256 l
abbrev A8 (B : Nat) (w : World) (s : Sl) (l : List Int) : Prop := Arr B w s (nums .u8 l)
def gd (l : List Int) (i : Nat) : Int := (l[i]?).getD 0
theorem gd_rng {l : List Int} (h : D8 l) (i : Nat) : 0 ≤ gd l i ∧ gd l i < 256 := by
  unfold gd
  cases hi : l[i]? with
  | none => exact ⟨by decide, by decide⟩
  | some d => exact h.get hi
theorem vl_take_gd (b : Int) (l : List Int) (i : Nat) : vl b (l.take (i + 1)) = vl b (l.take i) + b ^ i * gd l i := by
  unfold gd
  cases hi : l[i]? with
  | none =>
    have : l.length ≤ i := by
      rcases Nat.lt_or_ge i l.length with h | h
      · rw [List.getElem?_eq_getElem h] at hi; cases hi
      · exact h
    rw [vl_take_past this]; simp
  | some d => rw [vl_take_succ hi]; rfl
theorem wrap8_in {n : Int} (h : 0 ≤ n ∧ n < 256) : IntKind.wrap .u8 n = n := by rw [wrapU8]; omega
theorem digit_spec {B : Nat} {w : World} {s : Sl} {l : List Int} (H : A8 B w s l) (hd : D8 l) (i : Nat) : Ok (f92_palaverref09_digit s (i : Int)) w fun r w' => w' = w ∧ r = gd l i := by
  unfold f92_palaverref09_digit
  have el : s.len = l.length := by have := H.1; simpa using this
  have hg := gd_rng hd i
  unfold gd at hg ⊢
  by_cases h : i < l.length
  · refine ok_true (by simp only [decide_eq_true_eq]; omega) ?_
    obtain ⟨x, hx⟩ := get_some h
    rw [hx] at hg ⊢
    simp only [Option.getD_some] at hg ⊢
    refine ok_get H (by omega) (n := x) (by rw [Int.toNat_natCast]; exact hx) (ok_ret.2 ⟨rfl, ?_⟩)
    rw [wrapI_in (by omega)]
  · refine ok_false (by simp only [decide_eq_false_iff_not]; omega) (ok_ret.2 ⟨rfl, ?_⟩)
    rw [List.getElem?_eq_none (by omega)]; rfl
/-- Digits of one's own, the shortest. -/
def O8 (B : Nat) (w : World) (s : Sl) (n : Nat) : Prop := Own B w s (nums .u8 (db n))
theorem O8.len {B : Nat} {w : World} {s : Sl} {n : Nat} (h : O8 B w s n) : s.len = (db n).length := by have := h.1; simpa using this
theorem O8.arr {B : Nat} {w : World} {s : Sl} {n : Nat} (h : O8 B w s n) : A8 w.heap.size w s (db n) := own_arr h
theorem dgs_trim8 {l : List Int} (h : D8 l) : trimL l = db (vl 256 l).toNat := dgs_trim h256 h
theorem rtrim_arr {B : Nat} {w : World} {s : Sl} {l : List Int} (H : A8 B w s l) (hd : D8 l) : Ok (f64_palaverref09_trim s) w fun r w' => w' = w ∧ A8 B w r (db (vl 256 l).toNat) ∧ r.len ≤ s.len ∧ r.a = s.a := by
  unfold f64_palaverref09_trim
  refine ok_trimB (K := fun s1 => ret (Sum.inr s1)) H fun t ht hl ha hc => ok_ret.2 ⟨t, rfl, rfl, ?_, hl, ha⟩
  rw [← dgs_trim8 hd]; exact ht
theorem rtrim_own {B : Nat} {w : World} {s : Sl} {l : List Int} (H : Own B w s (nums .u8 l)) (hd : D8 l) : Ok (f64_palaverref09_trim s) w fun r w' => w' = w ∧ O8 B w r (vl 256 l).toNat ∧ r.len ≤ s.len ∧ r.a = s.a := by
  unfold f64_palaverref09_trim
  refine ok_trimB (K := fun s1 => ret (Sum.inr s1)) (own_arr H) fun t ht hl ha hc => ok_ret.2 ⟨t, rfl, rfl, ?_, hl, ha⟩
  unfold O8
  rw [← dgs_trim8 hd]
  refine own_view (m := nums .u8 (l.drop (trimL l).length)) H ?_ ha.symm hc.symm ht.1 ht.2.1
  rw [← List.map_append]
  conv => lhs; rw [← List.take_append_drop (trimL l).length l, ← trimL_take]
/-- What digits are worth, as a natural number. -/
abbrev v8 (l : List Int) : Nat := (vl 256 l).toNat
theorem v8_cast {l : List Int} (h : D8 l) : ((v8 l : Nat) : Int) = vl 256 l := Int.toNat_of_nonneg (vl_nonneg (by decide) h)
theorem v8_db (n : Nat) : v8 (db n) = n := by
  have : vl 256 (db n) = (n : Int) := vl_dgs h256 n
  unfold v8; rw [this, Int.toNat_natCast]
theorem v8_lt {l : List Int} (h : D8 l) : v8 l < 256 ^ l.length := by
  have h1 := vl_lt (b := 256) (by decide) h
  rw [← v8_cast h] at h1
  exact_mod_cast h1
theorem maxI_nat (a b : Nat) : maxI (a : Int) (b : Int) = ((max a b : Nat) : Int) := by unfold maxI; split <;> omega
theorem plus_spec {B B' : Nat} {w : World} {x y : Sl} {a c : List Int} (hx : A8 B w x a) (hy : A8 B' w y c) (da : D8 a) (dc : D8 c) (la : a.length ≤ 1000000) (lc : c.length ≤ 1000000) :
    Ok (f75_palaverref09_plus x y) w fun r w' => Below w.heap.size w w' ∧ O8 w.heap.size w' r (v8 a + v8 c) := by
  unfold f75_palaverref09_plus
  have hml : maxLen = 9223372036854775807 := by decide
  have ex : x.len = a.length := by have := hx.1; simpa using this
  have ey : y.len = c.length := by have := hy.1; simpa using this
  rw [ex, ey, maxI_nat]
  have C := (Cx.nil No w).addNil
  refine ok_loop (fun (q : Sl × (Int × Int)) w' => ∃ os, Cx No w w' [.own q.1 (nums .u8 os)] ∧ D8 os ∧ 0 ≤ q.2.1 ∧ q.2.1 ≤ 1 ∧ ∃ i : Nat, q.2.2 = i ∧ i ≤ max a.length c.length + 1 ∧ os.length = i ∧ vl 256 os + 256 ^ i * q.2.1 = vl 256 (a.take i) + vl 256 (c.take i))
    (fun q _ => ((max a.length c.length + 1 : Nat) - q.2.2).toNat) ?_ _ _ ⟨[], C, Dg.nil, by decide, by decide, 0, rfl, by omega, rfl, by simp [vl]⟩
  clear C
  rintro ⟨s, cr, q⟩ w3 ⟨os, C, hd, hc0, hc1, i, rfl, hi, hl, hv⟩
  simp only at C hc0 hc1 hv ⊢
  have hsl : s.len = os.length := by have := (C.get (i := 0) rfl).1; simpa using this
  by_cases hlt : i ≤ max a.length c.length
  · refine ok_true (by simp only [decide_eq_true_eq]; omega) ?_
    refine ok_bnd.2 (ok_mono (digit_spec (C.old (arr_size hx)) da i) ?_)
    rintro _ w4 ⟨rfl, rfl⟩
    refine ok_bnd.2 (ok_mono (digit_spec (C.old (arr_size hy)) dc i) ?_)
    rintro _ w5 ⟨rfl, rfl⟩
    have h1 := gd_rng da i
    have h2 := gd_rng dc i
    have h3 := vl_take_gd 256 a i
    have h4 := vl_take_gd 256 c i
    generalize gd a i = d at *
    generalize gd c i = e at *
    have e1 : IntKind.wrap .i64 (IntKind.wrap .i64 (d + e) + cr) = d + e + cr := by rw [wrapI_in (n := d + e) (by omega), wrapI_in (by omega)]
    rw [e1, Int.tmod_eq_emod_of_nonneg (by omega), Int.tdiv_eq_ediv_of_nonneg (by omega), wrap8_in (n := (d + e + cr) % 256) (by omega)]
    refine ok_push1 slt61 C (i := 0) (s := s) rfl (nums_one os) _ rfl rfl (by omega) (by omega) fun r w' C2 hr => ok_ret.2 ⟨⟨os ++ [(d + e + cr) % 256], ?_, hd.append (Dg.cons Dg.nil (by omega) (by omega)), ?_, ?_, i + 1, ?_, by omega, by simp [hl], ?_⟩, ?_⟩
    · rw [nums_snoc] at C2; exact C2
    · show 0 ≤ IntKind.wrap .i64 ((d + e + cr) / 256)
      rw [wrapI_in (by omega)]; omega
    · show IntKind.wrap .i64 ((d + e + cr) / 256) ≤ 1
      rw [wrapI_in (by omega)]; omega
    · show IntKind.wrap .i64 ((i : Int) + 1) = _
      rw [wrapI_in (by omega)]; simp
    · show _ + _ * IntKind.wrap .i64 ((d + e + cr) / 256) = _
      rw [wrapI_in (by omega), vl_concat, hl, h3, h4, Int.pow_succ]
      have q2 := Int.emod_add_mul_ediv (d + e + cr) 256
      generalize (d + e + cr) % 256 = A3 at *
      generalize (d + e + cr) / 256 = A4 at *
      grind
    · show (_ - IntKind.wrap .i64 ((i : Int) + 1)).toNat < _
      rw [wrapI_in (by omega)]; omega
  · have hie : i = max a.length c.length + 1 := by omega
    subst hie
    refine ok_false (by simp only [decide_eq_false_iff_not]; omega) ?_
    refine ok_bnd.2 (ok_bnd.2 (ok_mono (rtrim_own (C.ret (i := 0) (xs := nums .u8 os) rfl) hd) ?_))
    rintro r w5 ⟨rfl, hr, _, _⟩
    refine ok_ret.2 (ok_ret.2 ⟨C.below, ?_⟩)
    rw [List.take_of_length_le (by omega), List.take_of_length_le (by omega), ← v8_cast da, ← v8_cast dc] at hv
    have h1 := v8_lt da
    have h2 := v8_lt dc
    have h3 : 256 ^ a.length ≤ 256 ^ (max a.length c.length) := Nat.pow_le_pow_right (by decide) (by omega)
    have h4 : 256 ^ c.length ≤ 256 ^ (max a.length c.length) := Nat.pow_le_pow_right (by decide) (by omega)
    have h5 : (256 : Int) ^ (max a.length c.length + 1) = ((256 ^ (max a.length c.length) : Nat) : Int) * 256 := by rw [Int.pow_succ]; simp
    have h6 := vl_nonneg (b := 256) (by decide) hd
    have hcz : cr = 0 := by
      rcases (show cr = 0 ∨ cr = 1 by omega) with h | h
      · exact h
      · subst h
        rw [h5] at hv
        generalize 256 ^ (max a.length c.length) = P at *
        omega
    subst hcz
    have : (vl 256 os).toNat = v8 a + v8 c := by omega
    rw [this] at hr
    exact hr
theorem minus_spec {B B' : Nat} {w : World} {x y : Sl} {a c : List Int} (hx : A8 B w x a) (hy : A8 B' w y c) (da : D8 a) (dc : D8 c) (la : a.length ≤ 1000000) (lc : c.length ≤ 1000000) (hle : v8 c ≤ v8 a) :
    Ok (f83_palaverref09_minus x y) w fun r w' => Below w.heap.size w w' ∧ O8 w.heap.size w' r (v8 a - v8 c) := by
  unfold f83_palaverref09_minus
  have hml : maxLen = 9223372036854775807 := by decide
  have ex : x.len = a.length := by have := hx.1; simpa using this
  rw [ex]
  have C := (Cx.nil No w).addNil
  refine ok_loop (fun (q : Sl × (Int × Int)) w' => ∃ os, Cx No w w' [.own q.1 (nums .u8 os)] ∧ D8 os ∧ 0 ≤ q.2.1 ∧ q.2.1 ≤ 1 ∧ ∃ i : Nat, q.2.2 = i ∧ i ≤ a.length ∧ os.length = i ∧ vl 256 os - 256 ^ i * q.2.1 = vl 256 (a.take i) - vl 256 (c.take i))
    (fun q _ => ((a.length : Nat) - q.2.2).toNat) ?_ _ _ ⟨[], C, Dg.nil, by decide, by decide, 0, rfl, by omega, rfl, by simp [vl]⟩
  clear C
  rintro ⟨s, cr, q⟩ w3 ⟨os, C, hd, hc0, hc1, i, rfl, hi, hl, hv⟩
  simp only at C hc0 hc1 hv ⊢
  have hsl : s.len = os.length := by have := (C.get (i := 0) rfl).1; simpa using this
  by_cases hlt : i < a.length
  · refine ok_true (by simp only [decide_eq_true_eq]; omega) ?_
    refine ok_bnd.2 (ok_mono (digit_spec (C.old (arr_size hx)) da i) ?_)
    rintro _ w4 ⟨rfl, rfl⟩
    refine ok_bnd.2 (ok_mono (digit_spec (C.old (arr_size hy)) dc i) ?_)
    rintro _ w5 ⟨rfl, rfl⟩
    have h1 := gd_rng da i
    have h2 := gd_rng dc i
    have h3 := vl_take_gd 256 a i
    have h4 := vl_take_gd 256 c i
    generalize gd a i = d at *
    generalize gd c i = e at *
    have e1 : IntKind.wrap .i64 (IntKind.wrap .i64 (d - e) - cr) = d - e - cr := by rw [wrapI_in (n := d - e) (by omega), wrapI_in (by omega)]
    rw [e1]
    refine ok_bnd.2 (ok_mono (Q := fun (t : Int × Int) w' => w' = w5 ∧ 0 ≤ t.1 ∧ t.1 ≤ 1 ∧ 0 ≤ t.2 ∧ t.2 < 256 ∧ t.2 - 256 * t.1 = d - e - cr) ?_ ?_)
    · by_cases hn : d - e - cr < 0
      · refine ok_true (by simpa using hn) (ok_ret.2 ⟨rfl, (show (0 : Int) ≤ 1 by decide), (show (1 : Int) ≤ 1 by decide), ?_⟩)
        simp only
        rw [wrapI_in (by omega)]; omega
      · exact ok_false (by simpa using hn) (ok_ret.2 ⟨rfl, (show (0 : Int) ≤ 0 by decide), (show (0 : Int) ≤ 1 by decide), by simp only; omega⟩)
    rintro ⟨t1, t2⟩ w6 ⟨rfl, g1, g2, g3, g4, g5⟩
    simp only at g1 g2 g3 g4 g5 ⊢
    rw [wrap8_in ⟨g3, g4⟩]
    refine ok_push1 slt61 C (i := 0) (s := s) rfl (nums_one os) _ rfl rfl (by omega) (by omega) fun r w' C2 hr => ok_ret.2 ⟨⟨os ++ [t2], ?_, hd.append (Dg.cons Dg.nil g3 g4), g1, g2, i + 1, ?_, by omega, by simp [hl], ?_⟩, ?_⟩
    · rw [nums_snoc] at C2; exact C2
    · show IntKind.wrap .i64 ((i : Int) + 1) = _
      rw [wrapI_in (by omega)]; simp
    · rw [vl_concat, hl, h3, h4, Int.pow_succ]
      grind
    · show (_ - IntKind.wrap .i64 ((i : Int) + 1)).toNat < _
      rw [wrapI_in (by omega)]; omega
  · have hie : i = a.length := by omega
    subst hie
    refine ok_false (by simp only [decide_eq_false_iff_not]; omega) ?_
    refine ok_bnd.2 (ok_bnd.2 (ok_mono (rtrim_own (C.ret (i := 0) (xs := nums .u8 os) rfl) hd) ?_))
    rintro r w5 ⟨rfl, hr, _, _⟩
    refine ok_ret.2 (ok_ret.2 ⟨C.below, ?_⟩)
    have h1 := v8_lt da
    have hct : vl 256 (c.take a.length) = vl 256 c := by
      by_cases h : c.length ≤ a.length
      · rw [List.take_of_length_le h]
      · refine (vl_drop_zero (b := 256) (by decide) dc ?_ (by omega)).2
        rw [← v8_cast dc]
        have : v8 c < 256 ^ a.length := by omega
        exact_mod_cast this
    rw [List.take_of_length_le (by omega), hct, ← v8_cast da, ← v8_cast dc] at hv
    have h6 := vl_nonneg (b := 256) (by decide) hd
    have h7 := vl_lt (b := 256) (by decide) hd
    rw [hl] at h7
    have hcz : cr = 0 := by
      rcases (show cr = 0 ∨ cr = 1 by omega) with h | h
      · exact h
      · subst h; omega
    subst hcz
    have : (vl 256 os).toNat = v8 a - v8 c := by omega
    rw [this] at hr
    exact hr
theorem v8_pad (l : List Int) (k : Nat) : vl 256 (l ++ List.replicate k 0) = vl 256 l := by rw [vl_append, vl_zeros, Int.mul_zero, Int.add_zero]
theorem gd_pad (l : List Int) (k i : Nat) (h : i < l.length + k) : (l ++ List.replicate k 0)[i]? = some (gd l i) := by
  unfold gd
  by_cases h1 : i < l.length
  · rw [List.getElem?_append_left h1, List.getElem?_eq_getElem h1]; rfl
  · rw [List.getElem?_append_right (by omega), List.getElem?_replicate, if_pos (by omega), List.getElem?_eq_none (by omega)]; rfl
theorem rcmp_spec {B B' : Nat} {w : World} {x y : Sl} {a c : List Int} (hx : A8 B w x a) (hy : A8 B' w y c) (da : D8 a) (dc : D8 c) (la : a.length ≤ 1000000) (lc : c.length ≤ 1000000) :
    Ok (f79_palaverref09_cmp x y) w fun r w' => w' = w ∧ r = cmpN (v8 a) (v8 c) := by
  unfold f79_palaverref09_cmp
  have ex : x.len = a.length := by have := hx.1; simpa using this
  have ey : y.len = c.length := by have := hy.1; simpa using this
  rw [ex, ey, maxI_nat]
  obtain ⟨N, hN⟩ : ∃ N, N = max a.length c.length := ⟨_, rfl⟩
  rw [← hN]
  have e0 : IntKind.wrap .i64 ((N : Int) - 1) = (N : Int) - 1 := wrapI_in (by omega)
  rw [e0]
  have va := v8_pad a (N - a.length)
  have vc := v8_pad c (N - c.length)
  have la' : (a ++ List.replicate (N - a.length) 0).length = N := by simp; omega
  have lc' : (c ++ List.replicate (N - c.length) 0).length = N := by simp; omega
  have ga : ∀ i, i < N → (a ++ List.replicate (N - a.length) 0)[i]? = some (gd a i) := fun i hi => gd_pad a _ i (by omega)
  have gc : ∀ i, i < N → (c ++ List.replicate (N - c.length) 0)[i]? = some (gd c i) := fun i hi => gd_pad c _ i (by omega)
  have da' : D8 (a ++ List.replicate (N - a.length) 0) := da.append (Dg.zeros (by decide) _)
  have dc' : D8 (c ++ List.replicate (N - c.length) 0) := dc.append (Dg.zeros (by decide) _)
  rw [← v8_cast da] at va
  rw [← v8_cast dc] at vc
  generalize a ++ List.replicate (N - a.length) 0 = a' at *
  generalize c ++ List.replicate (N - c.length) 0 = c' at *
  refine ok_loop (fun (q : Int) w' => w' = w ∧ ∃ i : Nat, q = (i : Int) - 1 ∧ i ≤ N ∧ a'.drop i = c'.drop i) (fun q _ => (q + 1).toNat) ?_ _ _
    ⟨rfl, N, rfl, Nat.le_refl _, by rw [List.drop_of_length_le (by omega), List.drop_of_length_le (by omega)]⟩
  rintro q w3 ⟨rfl, i, rfl, hi, hdr⟩
  by_cases hi0 : i = 0
  · subst hi0
    refine ok_false (by simp) (ok_ret.2 ⟨rfl, ?_⟩)
    rw [List.drop_zero, List.drop_zero] at hdr
    rw [hdr, vc] at va
    unfold cmpN; rw [if_neg (by omega), if_pos (by omega)]
  · obtain ⟨j, rfl⟩ : ∃ j, i = j + 1 := ⟨i - 1, by omega⟩
    have e1 : ((j + 1 : Nat) : Int) - 1 = (j : Int) := by omega
    rw [e1]
    refine ok_true (by simp) ?_
    refine ok_bnd.2 (ok_mono (digit_spec hx da j) ?_)
    rintro _ w4 ⟨rfl, rfl⟩
    refine ok_bnd.2 (ok_mono (digit_spec hy dc j) ?_)
    rintro _ w5 ⟨rfl, rfl⟩
    have hxj := ga j (by omega)
    have hyj := gc j (by omega)
    have hn1 := vl_drop_take (b := 256) (l := a') (j + 1) (by omega)
    have hm1 := vl_drop_take (b := 256) (l := c') (j + 1) (by omega)
    rw [vl_take_succ hxj] at hn1
    rw [vl_take_succ hyj] at hm1
    rw [hdr] at hn1
    have ln := vl_lt (b := 256) (by decide) (da'.take j)
    have lm := vl_lt (b := 256) (by decide) (dc'.take j)
    have gn := vl_nonneg (b := 256) (by decide) (da'.take j)
    have gm := vl_nonneg (b := 256) (by decide) (dc'.take j)
    rw [List.length_take, Nat.min_eq_left (by omega)] at ln lm
    have hp : (0 : Int) < 256 ^ j := Int.pow_pos (by decide)
    by_cases hlt : gd a j < gd c j
    · refine ok_true (by simpa using hlt) (ok_ret.2 ⟨rfl, ?_⟩)
      have h5 : (256 : Int) ^ j * (gd a j + 1) ≤ 256 ^ j * gd c j := Int.mul_le_mul_of_nonneg_left (by omega) (by omega)
      rw [Int.mul_add, Int.mul_one] at h5
      unfold cmpN; rw [if_pos (by omega)]
    · refine ok_false (by simpa using hlt) ?_
      by_cases hgt : gd c j < gd a j
      · refine ok_true (by simpa using hgt) (ok_ret.2 ⟨rfl, ?_⟩)
        have h5 : (256 : Int) ^ j * (gd c j + 1) ≤ 256 ^ j * gd a j := Int.mul_le_mul_of_nonneg_left (by omega) (by omega)
        rw [Int.mul_add, Int.mul_one] at h5
        unfold cmpN; rw [if_neg (by omega), if_neg (by omega)]
      · refine ok_false (by simpa using hgt) (ok_ret.2 ⟨⟨rfl, j, ?_, by omega, ?_⟩, ?_⟩)
        · rw [wrapI_in (by omega)]
        · rw [List.drop_eq_getElem_cons (show j < a'.length by omega), List.drop_eq_getElem_cons (show j < c'.length by omega), hdr]
          rw [List.getElem?_eq_getElem (by omega), Option.some.injEq] at hxj hyj
          rw [hxj, hyj, show gd a j = gd c j by omega]
        · rw [wrapI_in (by omega)]; omega
end Go.Proofs.Ytoekfjgikicclaa
