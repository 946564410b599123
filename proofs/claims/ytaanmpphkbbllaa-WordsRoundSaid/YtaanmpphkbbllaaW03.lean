/-
  Oops and their kinds: what the functions answer. No condition beyond the kinds of the numbers.
-/
import Derived.Test.YtaanmpphkbbllaaW02
namespace Go.Proofs.Ytaanmpphkbbllaa
open Go.Sh Go.RowKit
set_option maxRecDepth 100000
theorem and7 (x : Int) (h : 0 ≤ x ∧ x < 18446744073709551616) : bAnd .u64 x 7 = x % 8 := by have := bAnd_mask x 3 h (by decide); simpa using this
theorem shr3 (x : Int) : shrI .u64 x 3 = x / 8 := by rw [shr_eq _ _ _ (by decide)]; rfl
theorem shr3i (x : Int) : shrI .i64 x 3 = x / 8 := by rw [shr_eq _ _ _ (by decide)]; rfl
/-- The kind of a word. -/
def tagS (x : Int) : Int := if x = 0 then 0 else if x % 8 = 1 then 1 else if x % 8 = 2 ∧ x / 8 ≤ 2097151 then 2 else if x % 8 = 0 ∧ x / 8 ≤ 268435455 then 3 else 4
theorem tag_spec (x : Int) (h : 0 ≤ x ∧ x < 18446744073709551616) (w : World) : Ok (f19_words_Tag x) w fun r w' => r = tagS x ∧ w' = w := by
  unfold f19_words_Tag
  rw [and7 x h, shr3]
  repeat' (first
    | with_reducible refine ok_bnd.2 ?_
    | with_reducible refine ok_ret.2 ?_
    | with_reducible refine ok_true rfl ?_
    | with_reducible refine ok_cnd.2 ⟨fun _ => ?_, fun _ => ?_⟩
    | (fail_if_success (with_reducible refine And.intro ?_ ?_)
       dsimp only))
  all_goals refine ⟨?_, rfl⟩
  all_goals simp only [tagS, beq_iff_eq, beq_eq_false_iff_ne, decide_eq_true_eq, decide_eq_false_iff_not, ne_eq] at *
  all_goals (repeat' split)
  all_goals omega
theorem tagR (x : Int) (h : 0 ≤ x ∧ x < 18446744073709551616) : Gf20_palaverref01_Tag x = tagS x := by
  have e : IntKind.wrap .u64 (x / 8) = x / 8 := by rw [wrapU]; omega
  simp only [Gf20_palaverref01_Tag, tagS, tdiv_nn _ _ h.1, tmod_nn _ _ h.1, e, Bool.cond_false_right]
  simp only [cond_eq_ite, Bool.and_eq_true, beq_iff_eq, decide_eq_true_eq]
theorem of_spec (x k : Int) (h : 0 ≤ x ∧ x < 18446744073709551616) (w : World) : Ok (f33_words_of x k) w fun r w' => r = (if tagS x = k then (x / 8, true) else (0, false)) ∧ w' = w := by
  unfold f33_words_of
  refine ok_bnd.2 (ok_mono (tag_spec x h w) ?_)
  rintro r w1 ⟨rfl, rfl⟩
  refine ok_cnd.2 ⟨fun h1 => ok_ret.2 ⟨?_, rfl⟩, fun h1 => ok_ret.2 ⟨?_, rfl⟩⟩
  · rw [if_neg (by simpa using h1)]
  · rw [if_pos (by simpa using h1), shr3, wrapI]
    refine Prod.ext ?_ rfl
    show _ = x / 8
    omega
def ofS (x k : Int) : Int × Bool := if tagS x = k then (x / 8, true) else (0, false)
theorem charOf_spec (x : Int) (h : 0 ≤ x ∧ x < 18446744073709551616) (w : World) : Ok (f23_words_CharOf x) w fun r w' => r = ofS x 2 ∧ w' = w := by
  unfold f23_words_CharOf
  refine ok_bnd.2 (ok_mono (of_spec x 2 h w) ?_)
  rintro r w1 ⟨rfl, rfl⟩
  exact ok_ret.2 ⟨rfl, rfl⟩
theorem wordOf_spec (x : Int) (h : 0 ≤ x ∧ x < 18446744073709551616) (w : World) : Ok (f25_words_WordOf x) w fun r w' => r = ofS x 3 ∧ w' = w := by
  unfold f25_words_WordOf
  refine ok_bnd.2 (ok_mono (of_spec x 3 h w) ?_)
  rintro r w1 ⟨rfl, rfl⟩
  exact ok_ret.2 ⟨rfl, rfl⟩
theorem charOfR (x : Int) (h : 0 ≤ x ∧ x < 18446744073709551616) : Gf24_palaverref01_CharOf x = ofS x 2 := by
  simp only [Gf24_palaverref01_CharOf, tagR x h, ofS, tdiv_nn _ _ h.1, wrapU, wrapI, cond_eq_ite, bne_iff_ne, ne_eq, ite_not]
  split
  · refine Prod.ext ?_ rfl
    show _ = x / 8
    omega
  · rfl
theorem wordOfR (x : Int) (h : 0 ≤ x ∧ x < 18446744073709551616) : Gf26_palaverref01_WordOf x = ofS x 3 := by
  simp only [Gf26_palaverref01_WordOf, tagR x h, ofS, tdiv_nn _ _ h.1, wrapU, wrapI, cond_eq_ite, bne_iff_ne, ne_eq, ite_not]
  split
  · refine Prod.ext ?_ rfl
    show _ = x / 8
    omega
  · rfl
theorem orL (y t : Int) (n : Nat) (ht : 0 ≤ t ∧ t < 8) (hy : 0 ≤ y ∧ y < 2305843009213693952) : bOr .u64 (y * 8) t = t + y * 8 := by
  have := add_bOr t y 3 (by omega) hy.1 (by omega)
  simpa using this
theorem sh3 (x : Int) : shlI .u64 (IntKind.wrap .u64 x) 3 = (x % 2305843009213693952) * 8 := by
  rw [shl_u64 _ _ (by decide), wrapU]; omega
/-- A word with a tag. -/
def wordS (x lo hi t : Int) : Int × Bool := if lo ≤ x ∧ x ≤ hi then ((8 * x + t) % 18446744073709551616, true) else (0, false)
theorem small_eq (x : Int) : Gf13_words_Small x = wordS x (-1152921504606846976) 1152921504606846975 1 := by
  simp only [Gf13_words_Small, wordS, sh3, Bool.cond_true_left]
  simp only [cond_eq_ite, Bool.or_eq_true, decide_eq_true_eq]
  split
  · rw [if_neg (by omega)]
  · rw [if_pos (by omega), orL _ 1 3 (by decide) (by omega)]
    refine Prod.ext ?_ rfl
    show 1 + x % 2305843009213693952 * 8 = (8 * x + 1) % 18446744073709551616
    omega
theorem within_eq (x lo hi t : Int) (ht : 0 ≤ t ∧ t < 8) : Gf32_words_within x lo hi t = wordS x lo hi t := by
  simp only [Gf32_words_within, wordS, sh3, Bool.cond_true_left]
  simp only [cond_eq_ite, Bool.or_eq_true, decide_eq_true_eq]
  split
  · rw [if_neg (by omega)]
  · rw [if_pos (by omega), orL _ t 3 ht (by omega)]
    refine Prod.ext ?_ rfl
    show t + x % 2305843009213693952 * 8 = (8 * x + t) % 18446744073709551616
    omega
theorem char_eq (x : Int) : Gf15_words_Char x = wordS x 0 2097151 2 := by
  simp only [Gf15_words_Char, within_eq _ _ _ 2 (by decide)]
theorem object_eq (x : Int) : Gf17_words_Object x = wordS x 1 268435455 0 := by
  simp only [Gf17_words_Object, within_eq _ _ _ 0 (by decide)]
theorem smallR_eq (x : Int) : Gf14_palaverref01_Small x = wordS x (-1152921504606846976) 1152921504606846975 1 := by
  simp only [Gf14_palaverref01_Small, wordS, wrapU, wrapI, Bool.cond_true_left]
  simp only [cond_eq_ite, Bool.or_eq_true, decide_eq_true_eq]
  split
  · rw [if_neg (by omega)]
  · rw [if_pos (by omega)]
    refine Prod.ext ?_ rfl
    show _ = (8 * x + 1) % 18446744073709551616
    omega
theorem charR_eq (x : Int) : Gf16_palaverref01_Char x = wordS x 0 2097151 2 := by
  simp only [Gf16_palaverref01_Char, wordS, wrapU, wrapI, Bool.cond_true_left]
  simp only [cond_eq_ite, Bool.or_eq_true, decide_eq_true_eq]
  split
  · rw [if_neg (by omega)]
  · rw [if_pos (by omega)]
    refine Prod.ext ?_ rfl
    show _ = (8 * x + 2) % 18446744073709551616
    omega
theorem objectR_eq (x : Int) : Gf18_palaverref01_Object x = wordS x 1 268435455 0 := by
  simp only [Gf18_palaverref01_Object, wordS, wrapU, wrapI, Bool.cond_true_left]
  simp only [cond_eq_ite, Bool.or_eq_true, decide_eq_true_eq]
  split
  · rw [if_neg (by omega)]
  · rw [if_pos (by omega)]
    refine Prod.ext ?_ rfl
    show _ = (8 * x + 0) % 18446744073709551616
    omega
/-- A small one's number. -/
def smallOfS (x : Int) : Int × Bool := if x % 8 = 1 then ((x / 8 + 1152921504606846976) % 2305843009213693952 - 1152921504606846976, true) else (0, false)
theorem smallOf_eq (x : Int) (h : 0 ≤ x ∧ x < 18446744073709551616) : Gf21_words_SmallOf x = smallOfS x := by
  simp only [Gf21_words_SmallOf, smallOfS, and7 x h, shr3i, wrapI, cond_eq_ite, bne_iff_ne, ne_eq, ite_not]
  split
  · refine Prod.ext ?_ rfl
    show ((x + 9223372036854775808) % 18446744073709551616 - 9223372036854775808) / 8 = (x / 8 + 1152921504606846976) % 2305843009213693952 - 1152921504606846976
    omega
  · rfl
theorem smallOfR_eq (x : Int) (h : 0 ≤ x ∧ x < 18446744073709551616) : Gf22_palaverref01_SmallOf x = smallOfS x := by
  simp only [Gf22_palaverref01_SmallOf, smallOfS, tdiv_nn _ _ h.1, tmod_nn _ _ h.1, wrapI, wrapU, cond_eq_ite, bne_iff_ne, ne_eq, ite_not, decide_eq_true_eq]
  split
  · refine Prod.ext ?_ rfl
    dsimp only
    split <;> omega
  · rfl
theorem works_spec (w : World) : Ok f8_palaverlaw01_works w fun r w' => r = true ∧ Below w.heap.size w w' := by
  unfold f8_palaverlaw01_works
  refine ok_bnd.2 (ok_mono (pack_spec _ w) ?_)
  rintro r1 w1 ⟨rfl, hB1⟩
  refine ok_bnd.2 (ok_mono (unpack_spec 0 0 (by decide) (by decide) w1) ?_)
  rintro r2 w2 ⟨rfl, hB2⟩
  have hB2 := hB1.trans (hB2.mono hB1.size)
  refine ok_bnd.2 (ok_new (h := zh) fun w3 hb3 hB3 hs3 => ?_)
  have hB3 := hB2.trans (hB3.mono hB2.size)
  refine ok_bnd.2 (ok_wr (h := (unpackS 0 0).1) hb3 fun w4 hb4 hB4 hs4 hk => ?_)
  have hB4 := hB3.trans (hB4.mono hB2.size)
  refine ok_bnd.2 (ok_mono (tag_spec 3 (by decide) w4) ?_)
  rintro r4 w5 ⟨rfl, rfl⟩
  rw [show unpackS 0 0 = (zh, 10) by simp [unpackS, May, flds]] at hb4 ⊢
  refine ok_bnd.2 (ok_true (by rw [small_eq, small_eq, small_eq, char_eq, object_eq]; decide +kernel) (ok_bnd.2 (ok_lh hb4 (ok_ret.2 (ok_ret.2 ⟨by decide +kernel, hB4⟩)))))
end Go.Proofs.Ytaanmpphkbbllaa
