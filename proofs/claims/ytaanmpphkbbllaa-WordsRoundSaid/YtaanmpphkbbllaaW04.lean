/-
  WordsOrder, WordsOops, WordsBack: the law's function answers true. No condition beyond the kinds of the numbers.
-/
import Derived.Test.YtaanmpphkbbllaaW03
namespace Go.Proofs.Ytaanmpphkbbllaa
open Go.Sh Go.RowKit
set_option maxRecDepth 100000
theorem wordS_in {x lo hi t : Int} (h : lo ≤ x ∧ x ≤ hi) : wordS x lo hi t = ((8 * x + t) % 18446744073709551616, true) := if_pos h
theorem wordS_out {x lo hi t : Int} (h : ¬(lo ≤ x ∧ x ≤ hi)) : wordS x lo hi t = (0, false) := if_neg h
theorem order_spec (x y : Int) (w : World) : Ok (f5_palaverlaw01_WordsOrder x y) w fun r w' => r = true ∧ Below w.heap.size w w' := by
  unfold f5_palaverlaw01_WordsOrder
  refine ok_bnd.2 (ok_mono (works_spec w) ?_)
  rintro r w1 ⟨rfl, hB⟩
  simp only [small_eq]
  by_cases hx : -1152921504606846976 ≤ x ∧ x ≤ 1152921504606846975
  · by_cases hy : -1152921504606846976 ≤ y ∧ y ≤ 1152921504606846975
    · rw [wordS_in hx, wordS_in hy]
      refine ok_false rfl (ok_false ?_ (ok_ret.2 ⟨?_, hB⟩))
      · have h1 : decide (x < y) = decide (IntKind.i64.wrap ((8 * x + 1) % 18446744073709551616) < IntKind.i64.wrap ((8 * y + 1) % 18446744073709551616)) := by
          rw [wrapI, wrapI]; exact eq_dec (by rw [decide_eq_true_iff]; omega)
        have h2 : (x == y) = ((8 * x + 1) % 18446744073709551616 == (8 * y + 1) % 18446744073709551616) := by
          rw [Bool.eq_iff_iff, beq_iff_eq, beq_iff_eq]; omega
        simp only [h1, h2, beq_self_eq_true, Bool.not_true, cond_false]
      · have e : IntKind.i64.wrap (x + y) = x + y := by rw [wrapI]; omega
        rw [e]
        by_cases hz : -1152921504606846976 ≤ x + y ∧ x + y ≤ 1152921504606846975
        · rw [wordS_in hz]
          have h3 : (8 * (x + y) + 1) % 18446744073709551616 = IntKind.wrap .u64 (IntKind.wrap .u64 ((8 * x + 1) % 18446744073709551616 + (8 * y + 1) % 18446744073709551616) - 1) := by
            rw [wrapU, wrapU]; omega
          simp [h3, hz]
        · rw [wordS_out hz]
          simp
          omega
    · rw [wordS_in hx, wordS_out hy]
      exact ok_true rfl (ok_ret.2 ⟨rfl, hB⟩)
  · rw [wordS_out hx]
    exact ok_true rfl (ok_ret.2 ⟨rfl, hB⟩)
theorem oops_spec (a b c d : Int) (h : 0 ≤ d ∧ d < 18446744073709551616) (w : World) : Ok (f6_palaverlaw01_WordsOops a b c d) w fun r w' => r = true ∧ Below w.heap.size w w' := by
  unfold f6_palaverlaw01_WordsOops
  refine ok_bnd.2 (ok_mono (works_spec w) ?_)
  rintro r w1 ⟨rfl, hB⟩
  refine ok_bnd.2 (ok_mono (tag_spec d h _) ?_)
  rintro r w1 ⟨rfl, rfl⟩
  refine ok_bnd.2 (ok_mono (charOf_spec d h _) ?_)
  rintro r w1 ⟨rfl, rfl⟩
  refine ok_bnd.2 (ok_mono (wordOf_spec d h _) ?_)
  rintro r w1 ⟨rfl, rfl⟩
  refine ok_ret.2 ⟨?_, hB⟩
  simp only [small_eq, char_eq, object_eq, smallR_eq, charR_eq, objectR_eq, tagR d h, smallOf_eq d h, smallOfR_eq d h, charOfR d h, wordOfR d h, beq_self_eq_true, cond_true]
theorem back_spec (a b c d : Int) (h : 0 ≤ d ∧ d < 18446744073709551616) (w : World) : Ok (f7_palaverlaw01_WordsBack a b c d) w fun r w' => r = true ∧ Below w.heap.size w w' := by
  unfold f7_palaverlaw01_WordsBack
  refine ok_bnd.2 (ok_mono (works_spec w) ?_)
  rintro r w1 ⟨rfl, hB⟩
  simp only [small_eq, char_eq, object_eq]
  refine ok_false ?_ ?_
  · by_cases ha : -1152921504606846976 ≤ a ∧ a ≤ 1152921504606846975
    · rw [wordS_in ha, smallOf_eq _ (by omega)]
      have : smallOfS ((8 * a + 1) % 18446744073709551616) = (a, true) := by
        unfold smallOfS
        rw [if_pos (by omega)]
        refine Prod.ext ?_ rfl
        show (_ : Int) = a
        omega
      rw [this]
      simp [ha]
    · rw [wordS_out ha, smallOf_eq _ (by decide)]
      have : smallOfS 0 = (0, false) := by decide
      rw [this]
      simp
      omega
  have hw : ∀ x lo hi t, 0 ≤ (wordS x lo hi t).1 ∧ (wordS x lo hi t).1 < 18446744073709551616 := by
    intro x lo hi t
    unfold wordS
    split
    · dsimp only; omega
    · decide
  refine ok_bnd.2 (ok_mono (charOf_spec _ (hw _ _ _ _) _) ?_)
  rintro r w1 ⟨rfl, rfl⟩
  have hof : ∀ x lo hi t, 0 ≤ lo → hi < 1152921504606846975 → (t = 2 ∧ hi = 2097151 ∨ t = 3 ∧ hi = 268435455 ∧ 1 ≤ lo) → ofS (wordS x lo hi (if t = 2 then 2 else 0)).1 t = if lo ≤ x ∧ x ≤ hi then (x, true) else (0, false) := by
    intro x lo hi t h0 h1 h2
    by_cases hx : lo ≤ x ∧ x ≤ hi
    · rw [wordS_in hx, if_pos hx]
      rcases h2 with ⟨rfl, rfl⟩ | ⟨rfl, rfl, h3⟩
      · have hT : tagS ((8 * x + 2) % 18446744073709551616) = 2 := by
          unfold tagS; rw [if_neg (by omega), if_neg (by omega), if_pos (by omega)]
        show ofS ((8 * x + 2) % 18446744073709551616) 2 = _
        unfold ofS
        rw [if_pos hT]
        refine Prod.ext ?_ rfl
        show _ = x
        omega
      · have hT : tagS ((8 * x + 0) % 18446744073709551616) = 3 := by
          unfold tagS; rw [if_neg (by omega), if_neg (by omega), if_neg (by omega), if_pos (by omega)]
        show ofS ((8 * x + 0) % 18446744073709551616) 3 = _
        unfold ofS
        rw [if_pos hT]
        refine Prod.ext ?_ rfl
        show _ = x
        omega
    · rw [wordS_out hx, if_neg hx]
      rcases h2 with ⟨rfl, rfl⟩ | ⟨rfl, rfl, h3⟩ <;> decide
  refine ok_false ?_ ?_
  · have := hof b 0 2097151 2 (by decide) (by decide) (by decide)
    rw [if_pos rfl] at this
    rw [this]
    by_cases hx : 0 ≤ b ∧ b ≤ 2097151
    · rw [if_pos hx, wordS_in hx]; simp
    · rw [if_neg hx, wordS_out hx]; simp
  refine ok_bnd.2 (ok_mono (wordOf_spec _ (hw _ _ _ _) _) ?_)
  rintro r w1 ⟨rfl, rfl⟩
  refine ok_false ?_ ?_
  · have := hof c 1 268435455 3 (by decide) (by decide) (by decide)
    rw [if_neg (by decide)] at this
    rw [this]
    by_cases hx : 1 ≤ c ∧ c ≤ 268435455
    · rw [if_pos hx, wordS_in hx]; simp
    · rw [if_neg hx, wordS_out hx]; simp
  rw [smallOf_eq d h]
  have hwx : ∀ k lo hi t, tagS d = k → (k = 1 ∧ lo = -1152921504606846976 ∧ hi = 1152921504606846975 ∧ t = 1) ∨ (k = 2 ∧ lo = 0 ∧ hi = 2097151 ∧ t = 2) ∨ (k = 3 ∧ lo = 1 ∧ hi = 268435455 ∧ t = 0) → wordS ((d / 8 + 1152921504606846976) % 2305843009213693952 - 1152921504606846976) lo hi t = (d, true) := by
    intro k lo hi t hk ht
    unfold tagS at hk
    have : lo ≤ ((d / 8 + 1152921504606846976) % 2305843009213693952 - 1152921504606846976) ∧ ((d / 8 + 1152921504606846976) % 2305843009213693952 - 1152921504606846976) ≤ hi ∧ (8 * ((d / 8 + 1152921504606846976) % 2305843009213693952 - 1152921504606846976) + t) % 18446744073709551616 = d := by
      revert hk
      split
      · omega
      · split
        · omega
        · split
          · omega
          · split <;> omega
    rw [wordS_in ⟨this.1, this.2.1⟩, this.2.2]
  have ht1 : d % 8 = 1 ↔ tagS d = 1 := by
    unfold tagS
    split
    · omega
    · split
      · omega
      · split
        · omega
        · split <;> omega
  have ht0 : d = 0 ↔ tagS d = 0 := by
    unfold tagS
    split
    · omega
    · split
      · omega
      · split
        · omega
        · split <;> omega
  have htr : 0 ≤ tagS d ∧ tagS d ≤ 4 := by
    unfold tagS
    split
    · omega
    · split
      · omega
      · split
        · omega
        · split <;> omega
  have hd8 : tagS d = 2 ∨ tagS d = 3 → ((d / 8 + 1152921504606846976) % 2305843009213693952 - 1152921504606846976) = d / 8 := by
    unfold tagS
    split
    · omega
    · split
      · omega
      · split
        · omega
        · split <;> omega
  refine ok_bnd.2 (ok_mono (Q := fun r w' => r = Sum.inl (if tagS d = 1 then 1 else 0) ∧ w' = w1) ?_ ?_)
  · unfold smallOfS
    by_cases h1 : tagS d = 1
    · rw [if_pos (ht1.2 h1), if_pos h1]
      refine ok_true rfl (ok_false ?_ (ok_ret.2 ⟨by decide, rfl⟩))
      dsimp only
      rw [hwx 1 _ _ _ h1 (Or.inl ⟨rfl, rfl, rfl, rfl⟩)]
      simp
    · rw [if_neg (fun e => h1 (ht1.1 e)), if_neg h1]
      exact ok_false rfl (ok_ret.2 ⟨rfl, rfl⟩)
  rintro r w1 ⟨rfl, rfl⟩
  dsimp only
  refine ok_bnd.2 (ok_mono (charOf_spec d h _) ?_)
  rintro r w1 ⟨rfl, rfl⟩
  refine ok_bnd.2 (ok_mono (Q := fun r w' => r = Sum.inl (if tagS d = 1 ∨ tagS d = 2 then 1 else 0) ∧ w' = w1) ?_ ?_)
  · unfold ofS
    by_cases h1 : tagS d = 2
    · rw [if_pos h1, if_pos (Or.inr h1), if_neg (by omega)]
      refine ok_true rfl (ok_false ?_ (ok_ret.2 ⟨by decide, rfl⟩))
      dsimp only
      have := hwx 2 _ _ _ h1 (Or.inr (Or.inl ⟨rfl, rfl, rfl, rfl⟩))
      rw [hd8 (Or.inl h1)] at this
      rw [this]
      simp
    · rw [if_neg h1]
      refine ok_false rfl (ok_ret.2 ⟨?_, rfl⟩)
      simp [h1]
  rintro r w1 ⟨rfl, rfl⟩
  dsimp only
  refine ok_bnd.2 (ok_mono (wordOf_spec d h _) ?_)
  rintro r w1 ⟨rfl, rfl⟩
  refine ok_bnd.2 (ok_mono (Q := fun r w' => r = Sum.inl (if tagS d = 1 ∨ tagS d = 2 ∨ tagS d = 3 then 1 else 0) ∧ w' = w1) ?_ ?_)
  · unfold ofS
    by_cases h1 : tagS d = 3
    · rw [if_pos h1, if_pos (Or.inr (Or.inr h1)), if_neg (by omega)]
      refine ok_true rfl (ok_false ?_ (ok_ret.2 ⟨by decide, rfl⟩))
      dsimp only
      have := hwx 3 _ _ _ h1 (Or.inr (Or.inr ⟨rfl, rfl, rfl, rfl⟩))
      rw [hd8 (Or.inr h1)] at this
      rw [this]
      simp
    · rw [if_neg h1]
      refine ok_false rfl (ok_ret.2 ⟨?_, rfl⟩)
      simp [h1]
  rintro r w1 ⟨rfl, rfl⟩
  dsimp only
  refine ok_bnd.2 (ok_mono (tag_spec d h _) ?_)
  rintro r w1 ⟨rfl, rfl⟩
  refine ok_ret.2 ⟨?_, hB⟩
  have hz : (d == 0) = (tagS d == 0) := by rw [Bool.eq_iff_iff, beq_iff_eq, beq_iff_eq]; exact ht0
  rw [hz]
  have : tagS d = 0 ∨ tagS d = 1 ∨ tagS d = 2 ∨ tagS d = 3 ∨ tagS d = 4 := by omega
  rcases this with h | h | h | h | h <;> rw [h] <;> decide
end Go.Proofs.Ytaanmpphkbbllaa
