/-
  Part of the proof: L41. It states what the functions do; no further condition.
-/
import Derived.Test.YtoekfjgikicclaaL40
set_option linter.unusedVariables false
set_option linter.unusedSimpArgs false
namespace Go.Proofs.Ytoekfjgikicclaa
set_option linter.unusedVariables false
open Go.Sh Go.RowKit
set_option maxRecDepth 100000
/-! ### Numbers of 64 bits; comparison; the law of sums -/
theorem rof_is {z : Int} (h1 : -9223372036854775808 ≤ z) (h2 : z ≤ 9223372036854775807) : Is (f40_palaverref09_Of z) (lg z) := by
  intro wb
  unfold f40_palaverref09_Of
  have hml : maxLen = 9223372036854775807 := by decide
  have C := Cx.nil No wb
  refine ok_newL C fun b1 w C => ?_
  refine ok_bnd.2 (ok_mono (Q := fun t w' => w' = w ∧ t = ((z.natAbs : Nat) : Int)) ?_ ?_)
  · by_cases hz : z < 0
    · exact ok_true (by simpa using hz) (ok_ret.2 ⟨rfl, by rw [wrapU, wrapU]; omega⟩)
    · exact ok_false (by simpa using hz) (ok_ret.2 ⟨rfl, by rw [wrapU]; omega⟩)
  rintro _ w ⟨rfl, rfl⟩
  have hX1 : z.natAbs ≤ 9223372036854775808 := by omega
  have h8 : (db z.natAbs).length ≤ 8 := dgs_length h256 (k := 8) (by omega)
  replace C : Cx No wb w [.own ⟨none, 0, 0⟩ (nums .u8 []), .cells b1 [.bool false, .string (ByteArray.mk #[])]] := C.addNil
  refine ok_loopN (fun N (q : Sl × Int) w' => q.2 = N ∧ N ≤ 9223372036854775808 ∧ ∃ os, Cx No wb w' [.own q.1 (nums .u8 os), .cells b1 [.bool false, .string (ByteArray.mk #[])]] ∧ os ++ db N = db z.natAbs)
    ?_ z.natAbs _ _ ⟨rfl, hX1, [], C, rfl⟩
  clear C
  rintro N ⟨s, q⟩ w ⟨rfl, hN1, os, C, hos⟩
  simp only at C ⊢
  have hsl : s.len = os.length := by have := (C.get (i := 0) rfl).1; simpa using this
  have hosl : os.length ≤ 8 := by have := congrArg List.length hos; simp at this; omega
  by_cases hN : N = 0
  · subst hN
    refine ok_false (by simp) ?_
    have e0 : db 0 = [] := dgs_zero 256
    rw [e0, List.append_nil] at hos
    subst hos
    refine ok_bnd.2 ?_
    refine ok_toStr slt61.under und5 und9 (C.arr (i := 0) (xs := nums .u8 (db z.natAbs)) rfl) (dg_dgs h256 _) ?_
    repeat first
      | with_reducible refine ok_assoc ?_
      | with_reducible refine ok_retB ?_
      | (with_reducible refine ah_newC ?_; refine ok_newL C fun bq w C => ?_)
      | (with_reducible refine ah_ord ?_; refine ok_ordL C fun oq w C => ?_)
      | (with_reducible refine ah_draw ?_; refine ok_drawL C fun w C => ?_)
      | (with_reducible refine ah_ldA ?_; first | refine w_ldA1 C ?_ | refine w_ldA2 C ?_)
      | (with_reducible refine ah_ldA3 ?_; refine w_ldA3 C ?_)
      | (with_reducible refine ah_ldA4 ?_; refine w_ldA4 C ?_)
      | (with_reducible refine ah_chA ?_; first | refine w_chA1 C ?_ | refine w_chA2 C ?_)
      | (with_reducible refine ah_chA3 ?_; refine w_chA3 C ?_)
      | (with_reducible refine ah_wrA ?_; refine w_wrA1 C fun w C => ?_)
    refine ok_ret.2 (ok_ret.2 ⟨C.below, ?_⟩)
    refine Prod.ext ?_ rfl
    rw [lg_neg]
  · refine ok_true (by simp; omega) ?_
    have e1 : IntKind.wrap .u8 (Int.tmod (N : Int) 256) = ((N % 256 : Nat) : Int) := by rw [Int.tmod_eq_emod_of_nonneg (by omega), wrapU8]; omega
    have e2 : IntKind.wrap .u64 (Int.tdiv (N : Int) 256) = ((N / 256 : Nat) : Int) := by rw [Int.tdiv_eq_ediv_of_nonneg (by omega), wrapU]; omega
    rw [e1, e2]
    have hdz : db N = ((N % 256 : Nat) : Int) :: db (N / 256) := dgs_pos h256 hN
    refine ok_push1 slt61 C (i := 0) (s := s) rfl (nums_one os) _ rfl rfl (by omega) (by omega) fun r w' C2 hr => ok_ret.2 ⟨N / 256, by omega, rfl, by omega, os ++ [((N % 256 : Nat) : Int)], ?_, ?_⟩
    · rw [nums_snoc] at C2; exact C2
    · rw [List.append_assoc, ← hos, hdz]; rfl
def smallR (a : Lg) : Int × Bool := if ck a = 0 ∧ -9223372036854775808 ≤ iv a ∧ iv a ≤ 9223372036854775807 then (iv a, true) else (0, false)
theorem len8 {n : Nat} : (db n).length ≤ 8 ↔ n < 18446744073709551616 := by
  constructor
  · intro h
    have h1 := lt_dgs h256 n
    have h2 : 256 ^ (dgs 256 n).length ≤ 256 ^ 8 := Nat.pow_le_pow_right (by decide) h
    have h3 : 256 ^ 8 = 18446744073709551616 := by decide
    omega
  · intro h
    exact dgs_length h256 (k := 8) h
theorem small_is (a : Lg) : Is (f41_largeint_Small a) (smallR a) := by
  intro wb
  unfold f41_largeint_Small smallR
  have C := Cx.nil No wb
  repeat first
    | with_reducible refine ok_assoc ?_
    | with_reducible refine ok_retB ?_
    | with_reducible refine ok_is C (check_is _) fun w C => ?_
    | (with_reducible refine ah_newC ?_; refine ok_newL C fun bq w C => ?_)
    | (with_reducible refine ah_ord ?_; refine ok_ordL C fun oq w C => ?_)
    | (with_reducible refine ah_draw ?_; refine ok_drawL C fun w C => ?_)
    | (with_reducible refine ah_ldA ?_; first | refine w_ldA1 C ?_ | refine w_ldA2 C ?_)
    | (with_reducible refine ah_ldA3 ?_; refine w_ldA3 C ?_)
    | (with_reducible refine ah_ldA4 ?_; refine w_ldA4 C ?_)
    | (with_reducible refine ah_chA ?_; first | refine w_chA1 C ?_ | refine w_chA2 C ?_)
    | (with_reducible refine ah_chA3 ?_; refine w_chA3 C ?_)
    | (with_reducible refine ah_wrA ?_; refine w_wrA1 C fun w C => ?_)
  by_cases ha : ck a = 0
  rotate_left
  · refine ok_tB (by simpa using ha) ?_
    repeat first
      | with_reducible refine ok_assoc ?_
      | with_reducible refine ok_retB ?_
      | (with_reducible refine ah_newC ?_; refine ok_newL C fun bq w C => ?_)
      | (with_reducible refine ah_ord ?_; refine ok_ordL C fun oq w C => ?_)
      | (with_reducible refine ah_draw ?_; refine ok_drawL C fun w C => ?_)
      | (with_reducible refine ah_ldA ?_; first | refine w_ldA1 C ?_ | refine w_ldA2 C ?_)
      | (with_reducible refine ah_ldA3 ?_; refine w_ldA3 C ?_)
      | (with_reducible refine ah_ldA4 ?_; refine w_ldA4 C ?_)
      | (with_reducible refine ah_chA ?_; first | refine w_chA1 C ?_ | refine w_chA2 C ?_)
      | (with_reducible refine ah_chA3 ?_; refine w_chA3 C ?_)
      | (with_reducible refine ah_wrA ?_; refine w_wrA1 C fun w C => ?_)
    exact ok_true rfl (ok_ret.2 ⟨C.below, by rw [if_neg (fun h => ha h.1)]⟩)
  refine ok_fB (by simpa using ha) ?_
  repeat first
    | with_reducible refine ok_assoc ?_
    | with_reducible refine ok_retB ?_
    | (with_reducible refine ah_newC ?_; refine ok_newL C fun bq w C => ?_)
    | (with_reducible refine ah_ord ?_; refine ok_ordL C fun oq w C => ?_)
    | (with_reducible refine ah_draw ?_; refine ok_drawL C fun w C => ?_)
    | (with_reducible refine ah_ldA ?_; first | refine w_ldA1 C ?_ | refine w_ldA2 C ?_)
    | (with_reducible refine ah_ldA3 ?_; refine w_ldA3 C ?_)
    | (with_reducible refine ah_ldA4 ?_; refine w_ldA4 C ?_)
    | (with_reducible refine ah_chA ?_; first | refine w_chA1 C ?_ | refine w_chA2 C ?_)
    | (with_reducible refine ah_chA3 ?_; refine w_chA3 C ?_)
    | (with_reducible refine ah_wrA ?_; refine w_wrA1 C fun w C => ?_)
  obtain ⟨x, rfl, hx⟩ := ck_ex ha
  rw [lg_size]
  by_cases h8 : (db x.natAbs).length ≤ 8
  rotate_left
  · refine ok_true (by simp only [gt_iff_lt, decide_eq_true_eq]; omega) (ok_ret.2 ⟨C.below, ?_⟩)
    rw [if_neg]
    rintro ⟨_, h1, h2⟩
    rw [iv_lg] at h1 h2
    exact h8 (len8.2 (by omega))
  have hx64 := len8.1 h8
  refine ok_false (by simp only [gt_iff_lt, decide_eq_false_iff_not]; omega) ?_
  repeat first
    | with_reducible refine ok_assoc ?_
    | with_reducible refine ok_retB ?_
    | (with_reducible refine ah_newC ?_; refine ok_newL C fun bq w C => ?_)
    | (with_reducible refine ah_ord ?_; refine ok_ordL C fun oq w C => ?_)
    | (with_reducible refine ah_draw ?_; refine ok_drawL C fun w C => ?_)
    | (with_reducible refine ah_ldA ?_; first | refine w_ldA1 C ?_ | refine w_ldA2 C ?_)
    | (with_reducible refine ah_ldA3 ?_; refine w_ldA3 C ?_)
    | (with_reducible refine ah_ldA4 ?_; refine w_ldA4 C ?_)
    | (with_reducible refine ah_chA ?_; first | refine w_chA1 C ?_ | refine w_chA2 C ?_)
    | (with_reducible refine ah_chA3 ?_; refine w_chA3 C ?_)
    | (with_reducible refine ah_wrA ?_; refine w_wrA1 C fun w C => ?_)
  have hbl := bl_lg x
  have hbn := bl_length (lg x).2
  rw [hbl] at hbn
  have hvl : vl 256 (db x.natAbs) = (x.natAbs : Int) := vl_dgs h256 _
  refine ok_loop (fun (q : Int × Int) w' => (∃ L, Cx No wb w' (L ++ [.cells bq [.bool (lg x).1, .string (lg x).2]])) ∧ ∃ i : Nat, q.2 = i ∧ i ≤ (db x.natAbs).length ∧ q.1 = vl 256 ((db x.natAbs).take i))
    (fun q _ => ((db x.natAbs).length - q.2).toNat) ?_ _ _ ⟨⟨[], C⟩, 0, rfl, Nat.zero_le _, rfl⟩
  clear C
  rintro ⟨acc, q⟩ w ⟨⟨L, C⟩, i, rfl, hi, hacc⟩
  simp only at hacc ⊢
  subst hacc
  replace C : Cx No wb w [.cells bq [.bool (lg x).1, .string (lg x).2]] := ⟨C.keep, fun it hi => C.held it (List.mem_append_right _ hi), fun it hi => C.mine it (List.mem_append_right _ hi), (List.pairwise_append.1 C.apart).2.1⟩
  by_cases hlt : i < (db x.natAbs).length
  · refine ok_true (by simp only [decide_eq_true_eq]; omega) ?_
    repeat first
      | with_reducible refine ok_assoc ?_
      | with_reducible refine ok_retB ?_
      | (with_reducible refine ah_newC ?_; refine ok_newL C fun bq w C => ?_)
      | (with_reducible refine ah_ord ?_; refine ok_ordL C fun oq w C => ?_)
      | (with_reducible refine ah_draw ?_; refine ok_drawL C fun w C => ?_)
      | (with_reducible refine ah_ldA ?_; first | refine w_ldA1 C ?_ | refine w_ldA2 C ?_)
      | (with_reducible refine ah_ldA3 ?_; refine w_ldA3 C ?_)
      | (with_reducible refine ah_ldA4 ?_; refine w_ldA4 C ?_)
      | (with_reducible refine ah_chA ?_; first | refine w_chA1 C ?_ | refine w_chA2 C ?_)
      | (with_reducible refine ah_chA3 ?_; refine w_chA3 C ?_)
      | (with_reducible refine ah_wrA ?_; refine w_wrA1 C fun w C => ?_)
    obtain ⟨d, hd⟩ := get_some hlt
    have wd := (dg_dgs h256 x.natAbs).get hd
    refine ok_ixB (by omega) (by rw [hbl, Int.toNat_natCast]; exact hd) ?_
    have e1 : IntKind.wrap .i64 (8 * (i : Int)) = ((8 * i : Nat) : Int) := by rw [wrapI_in (by omega)]; omega
    rw [e1]
    refine ok_bnd.2 (ok_cnt.2 ⟨by omega, ?_⟩)
    rw [Int.toNat_natCast]
    have dx : D8 (db x.natAbs) := dg_dgs h256 _
    have h1 := vl_nonneg (b := 256) (by decide) (dx.take i)
    have h2 := vl_lt (b := 256) (by decide) (dx.take i)
    rw [show ((db x.natAbs).take i).length = i from by rw [List.length_take]; omega] at h2
    have h3 := vl_take_succ (b := 256) hd
    have h4 := vl_nonneg (b := 256) (by decide) (dx.take (i + 1))
    have h5 := vl_lt (b := 256) (by decide) (dx.take (i + 1))
    rw [show ((db x.natAbs).take (i + 1)).length = i + 1 from by rw [List.length_take]; omega] at h5
    have e256 : ∀ j : Nat, (256 : Int) ^ j = 2 ^ (8 * j) := fun j => by rw [Int.pow_mul]; rfl
    have h6 : (256 : Int) ^ (i + 1) ≤ 18446744073709551616 := by
      have : i + 1 ≤ 8 := by omega
      rcases (show i = 0 ∨ i = 1 ∨ i = 2 ∨ i = 3 ∨ i = 4 ∨ i = 5 ∨ i = 6 ∨ i = 7 by omega) with h | h | h | h | h | h | h | h <;> rw [h] <;> decide
    have h7 : (0 : Int) < 256 ^ i := Int.pow_pos (by decide)
    have h8' : 0 ≤ d * 256 ^ i := Int.mul_nonneg wd.1 (by omega)
    have h9 : vl 256 ((db x.natAbs).take (i + 1)) = vl 256 ((db x.natAbs).take i) + d * 256 ^ i := by rw [h3, Int.mul_comm]
    have esh : shlI .u64 (IntKind.wrap .u64 d) (8 * i) = d * 2 ^ (8 * i) := by
      rw [wrapU_in (n := d) (by have := wd.1; have := wd.2; omega), shl_u64 _ _ (by omega), ← e256]
      exact Int.emod_eq_of_lt h8' (by omega)
    rw [esh, bOr_add _ _ _ ⟨h1, by rw [← e256]; exact h2⟩ wd.1 (by rw [← e256]; omega), ← e256]
    refine ok_ret.2 ⟨⟨⟨[], C⟩, i + 1, ?_, hlt, ?_⟩, ?_⟩
    · show IntKind.wrap .i64 ((i : Int) + 1) = _
      rw [wrapI_in (by omega)]; simp
    · show vl 256 ((db x.natAbs).take i) + d * 256 ^ i = _
      rw [h9]
    · show (_ - IntKind.wrap .i64 ((i : Int) + 1)).toNat < _
      rw [wrapI_in (by omega)]; omega
  have hie : i = (db x.natAbs).length := by omega
  subst hie
  refine ok_false (by simp only [decide_eq_false_iff_not]; omega) ?_
  rw [List.take_of_length_le (Nat.le_refl _), hvl]
  repeat first
    | with_reducible refine ok_assoc ?_
    | with_reducible refine ok_retB ?_
    | (with_reducible refine ah_newC ?_; refine ok_newL C fun bq w C => ?_)
    | (with_reducible refine ah_ord ?_; refine ok_ordL C fun oq w C => ?_)
    | (with_reducible refine ah_draw ?_; refine ok_drawL C fun w C => ?_)
    | (with_reducible refine ah_ldA ?_; first | refine w_ldA1 C ?_ | refine w_ldA2 C ?_)
    | (with_reducible refine ah_ldA3 ?_; refine w_ldA3 C ?_)
    | (with_reducible refine ah_ldA4 ?_; refine w_ldA4 C ?_)
    | (with_reducible refine ah_chA ?_; first | refine w_chA1 C ?_ | refine w_chA2 C ?_)
    | (with_reducible refine ah_chA3 ?_; refine w_chA3 C ?_)
    | (with_reducible refine ah_wrA ?_; refine w_wrA1 C fun w C => ?_)
  rw [lg_neg]
  rw [iv_lg]
  by_cases hn : x < 0
  · refine ok_tB (by simpa using hn) ?_
    repeat first
      | with_reducible refine ok_assoc ?_
      | with_reducible refine ok_retB ?_
      | (with_reducible refine ah_newC ?_; refine ok_newL C fun bq w C => ?_)
      | (with_reducible refine ah_ord ?_; refine ok_ordL C fun oq w C => ?_)
      | (with_reducible refine ah_draw ?_; refine ok_drawL C fun w C => ?_)
      | (with_reducible refine ah_ldA ?_; first | refine w_ldA1 C ?_ | refine w_ldA2 C ?_)
      | (with_reducible refine ah_ldA3 ?_; refine w_ldA3 C ?_)
      | (with_reducible refine ah_ldA4 ?_; refine w_ldA4 C ?_)
      | (with_reducible refine ah_chA ?_; first | refine w_chA1 C ?_ | refine w_chA2 C ?_)
      | (with_reducible refine ah_chA3 ?_; refine w_chA3 C ?_)
      | (with_reducible refine ah_wrA ?_; refine w_wrA1 C fun w C => ?_)
    rw [lg_neg]
    have e2 : IntKind.wrap .i64 (0 - IntKind.wrap .i64 (x.natAbs : Int)) = if -9223372036854775808 ≤ x then x else x + 18446744073709551616 := by
      rw [wrapI, wrapI]; split <;> omega
    rw [e2]
    by_cases hr : -9223372036854775808 ≤ x
    · rw [if_pos hr, if_pos ⟨ha, hr, by omega⟩]
      refine ok_fB (by simp [hn]) ?_
      exact ok_retB (ok_ret.2 ⟨C.below, rfl⟩)
    · rw [if_neg hr, if_neg (fun h => hr h.2.1)]
      refine ok_tB (by simp [hn]; omega) ?_
      exact ok_retB (ok_ret.2 ⟨C.below, rfl⟩)
  · refine ok_fB (by simpa using hn) ?_
    repeat first
      | with_reducible refine ok_assoc ?_
      | with_reducible refine ok_retB ?_
      | (with_reducible refine ah_newC ?_; refine ok_newL C fun bq w C => ?_)
      | (with_reducible refine ah_ord ?_; refine ok_ordL C fun oq w C => ?_)
      | (with_reducible refine ah_draw ?_; refine ok_drawL C fun w C => ?_)
      | (with_reducible refine ah_ldA ?_; first | refine w_ldA1 C ?_ | refine w_ldA2 C ?_)
      | (with_reducible refine ah_ldA3 ?_; refine w_ldA3 C ?_)
      | (with_reducible refine ah_ldA4 ?_; refine w_ldA4 C ?_)
      | (with_reducible refine ah_chA ?_; first | refine w_chA1 C ?_ | refine w_chA2 C ?_)
      | (with_reducible refine ah_chA3 ?_; refine w_chA3 C ?_)
      | (with_reducible refine ah_wrA ?_; refine w_wrA1 C fun w C => ?_)
    rw [lg_neg]
    have e2 : IntKind.wrap .i64 (x.natAbs : Int) = if x ≤ 9223372036854775807 then x else x - 18446744073709551616 := by
      rw [wrapI]; split <;> omega
    rw [e2]
    by_cases hr : x ≤ 9223372036854775807
    · rw [if_pos hr, if_pos ⟨ha, by omega, hr⟩]
      refine ok_fB (by simp [hn]) ?_
      exact ok_retB (ok_ret.2 ⟨C.below, rfl⟩)
    · rw [if_neg hr, if_neg (fun h => hr h.2.2)]
      refine ok_tB (by simp [hn]; omega) ?_
      exact ok_retB (ok_ret.2 ⟨C.below, rfl⟩)
theorem rsmall_is (a : Lg) : Is (f42_palaverref09_Small a) (smallR a) := by
  intro wb
  unfold f42_palaverref09_Small smallR
  have C := Cx.nil No wb
  repeat first
    | with_reducible refine ok_assoc ?_
    | with_reducible refine ok_retB ?_
    | with_reducible refine ok_is C (rcheck_is _) fun w C => ?_
    | (with_reducible refine ah_newC ?_; refine ok_newL C fun bq w C => ?_)
    | (with_reducible refine ah_ord ?_; refine ok_ordL C fun oq w C => ?_)
    | (with_reducible refine ah_draw ?_; refine ok_drawL C fun w C => ?_)
    | (with_reducible refine ah_ldA ?_; first | refine w_ldA1 C ?_ | refine w_ldA2 C ?_)
    | (with_reducible refine ah_ldA3 ?_; refine w_ldA3 C ?_)
    | (with_reducible refine ah_ldA4 ?_; refine w_ldA4 C ?_)
    | (with_reducible refine ah_chA ?_; first | refine w_chA1 C ?_ | refine w_chA2 C ?_)
    | (with_reducible refine ah_chA3 ?_; refine w_chA3 C ?_)
    | (with_reducible refine ah_wrA ?_; refine w_wrA1 C fun w C => ?_)
  by_cases ha : ck a = 0
  rotate_left
  · refine ok_tB (by simpa using ha) ?_
    repeat first
      | with_reducible refine ok_assoc ?_
      | with_reducible refine ok_retB ?_
      | (with_reducible refine ah_newC ?_; refine ok_newL C fun bq w C => ?_)
      | (with_reducible refine ah_ord ?_; refine ok_ordL C fun oq w C => ?_)
      | (with_reducible refine ah_draw ?_; refine ok_drawL C fun w C => ?_)
      | (with_reducible refine ah_ldA ?_; first | refine w_ldA1 C ?_ | refine w_ldA2 C ?_)
      | (with_reducible refine ah_ldA3 ?_; refine w_ldA3 C ?_)
      | (with_reducible refine ah_ldA4 ?_; refine w_ldA4 C ?_)
      | (with_reducible refine ah_chA ?_; first | refine w_chA1 C ?_ | refine w_chA2 C ?_)
      | (with_reducible refine ah_chA3 ?_; refine w_chA3 C ?_)
      | (with_reducible refine ah_wrA ?_; refine w_wrA1 C fun w C => ?_)
    exact ok_true rfl (ok_ret.2 ⟨C.below, by rw [if_neg (fun h => ha h.1)]⟩)
  refine ok_fB (by simpa using ha) ?_
  repeat first
    | with_reducible refine ok_assoc ?_
    | with_reducible refine ok_retB ?_
    | (with_reducible refine ah_newC ?_; refine ok_newL C fun bq w C => ?_)
    | (with_reducible refine ah_ord ?_; refine ok_ordL C fun oq w C => ?_)
    | (with_reducible refine ah_draw ?_; refine ok_drawL C fun w C => ?_)
    | (with_reducible refine ah_ldA ?_; first | refine w_ldA1 C ?_ | refine w_ldA2 C ?_)
    | (with_reducible refine ah_ldA3 ?_; refine w_ldA3 C ?_)
    | (with_reducible refine ah_ldA4 ?_; refine w_ldA4 C ?_)
    | (with_reducible refine ah_chA ?_; first | refine w_chA1 C ?_ | refine w_chA2 C ?_)
    | (with_reducible refine ah_chA3 ?_; refine w_chA3 C ?_)
    | (with_reducible refine ah_wrA ?_; refine w_wrA1 C fun w C => ?_)
  obtain ⟨x, rfl, hx⟩ := ck_ex ha
  rw [lg_size]
  by_cases h8 : (db x.natAbs).length ≤ 8
  rotate_left
  · refine ok_true (by simp only [gt_iff_lt, decide_eq_true_eq]; omega) (ok_ret.2 ⟨C.below, ?_⟩)
    rw [if_neg]
    rintro ⟨_, h1, h2⟩
    rw [iv_lg] at h1 h2
    exact h8 (len8.2 (by omega))
  have hx64 := len8.1 h8
  refine ok_false (by simp only [gt_iff_lt, decide_eq_false_iff_not]; omega) ?_
  repeat first
    | with_reducible refine ok_assoc ?_
    | with_reducible refine ok_retB ?_
    | (with_reducible refine ah_newC ?_; refine ok_newL C fun bq w C => ?_)
    | (with_reducible refine ah_ord ?_; refine ok_ordL C fun oq w C => ?_)
    | (with_reducible refine ah_draw ?_; refine ok_drawL C fun w C => ?_)
    | (with_reducible refine ah_ldA ?_; first | refine w_ldA1 C ?_ | refine w_ldA2 C ?_)
    | (with_reducible refine ah_ldA3 ?_; refine w_ldA3 C ?_)
    | (with_reducible refine ah_ldA4 ?_; refine w_ldA4 C ?_)
    | (with_reducible refine ah_chA ?_; first | refine w_chA1 C ?_ | refine w_chA2 C ?_)
    | (with_reducible refine ah_chA3 ?_; refine w_chA3 C ?_)
    | (with_reducible refine ah_wrA ?_; refine w_wrA1 C fun w C => ?_)
  have hbl := bl_lg x
  have hbn := bl_length (lg x).2
  rw [hbl] at hbn
  have hvl : vl 256 (db x.natAbs) = (x.natAbs : Int) := vl_dgs h256 _
  have e0 : IntKind.wrap .i64 (((lg x).2.size : Int) - 1) = ((db x.natAbs).length : Int) - 1 := by rw [wrapI_in (by omega)]; omega
  rw [e0]
  refine ok_loop (fun (q : Int × Int) w' => (∃ L, Cx No wb w' (L ++ [.cells bq [.bool (lg x).1, .string (lg x).2]])) ∧ ∃ i : Nat, q.2 = (i : Int) - 1 ∧ i ≤ (db x.natAbs).length ∧ q.1 = vl 256 ((db x.natAbs).drop i))
    (fun q _ => (q.2 + 1).toNat) ?_ _ _ ⟨⟨[], C⟩, (db x.natAbs).length, rfl, Nat.le_refl _, by rw [List.drop_of_length_le (Nat.le_refl _)]; rfl⟩
  clear C
  rintro ⟨acc, q⟩ w ⟨⟨L, C⟩, i, rfl, hi, hacc⟩
  simp only at hacc ⊢
  subst hacc
  replace C : Cx No wb w [.cells bq [.bool (lg x).1, .string (lg x).2]] := ⟨C.keep, fun it hi => C.held it (List.mem_append_right _ hi), fun it hi => C.mine it (List.mem_append_right _ hi), (List.pairwise_append.1 C.apart).2.1⟩
  by_cases hi0 : i = 0
  rotate_left
  · obtain ⟨j, rfl⟩ : ∃ j, i = j + 1 := ⟨i - 1, by omega⟩
    have e1 : ((j + 1 : Nat) : Int) - 1 = (j : Int) := by omega
    rw [e1]
    refine ok_true (by simp) ?_
    repeat first
      | with_reducible refine ok_assoc ?_
      | with_reducible refine ok_retB ?_
      | (with_reducible refine ah_newC ?_; refine ok_newL C fun bq w C => ?_)
      | (with_reducible refine ah_ord ?_; refine ok_ordL C fun oq w C => ?_)
      | (with_reducible refine ah_draw ?_; refine ok_drawL C fun w C => ?_)
      | (with_reducible refine ah_ldA ?_; first | refine w_ldA1 C ?_ | refine w_ldA2 C ?_)
      | (with_reducible refine ah_ldA3 ?_; refine w_ldA3 C ?_)
      | (with_reducible refine ah_ldA4 ?_; refine w_ldA4 C ?_)
      | (with_reducible refine ah_chA ?_; first | refine w_chA1 C ?_ | refine w_chA2 C ?_)
      | (with_reducible refine ah_chA3 ?_; refine w_chA3 C ?_)
      | (with_reducible refine ah_wrA ?_; refine w_wrA1 C fun w C => ?_)
    obtain ⟨d, hd⟩ := get_some (l := db x.natAbs) (i := j) (by omega)
    have wd := (dg_dgs h256 x.natAbs).get hd
    have hd0 := wd.1
    have hd1 : d < 256 := wd.2
    refine ok_ixB (by omega) (by rw [hbl, Int.toNat_natCast]; exact hd) ?_
    have hdj : (db x.natAbs).drop j = d :: (db x.natAbs).drop (j + 1) := by
      rw [List.drop_eq_getElem_cons (by omega)]
      rw [List.getElem?_eq_getElem (by omega), Option.some.injEq] at hd
      rw [hd]
    have dx : D8 (db x.natAbs) := dg_dgs h256 _
    have h1 := vl_nonneg (b := 256) (by decide) (dx.drop (j + 1))
    have h2 := vl_drop_take (b := 256) (l := db x.natAbs) j (by omega)
    rw [hdj, vl_cons, hvl] at h2
    have h3 := vl_nonneg (b := 256) (by decide) (dx.take j)
    have h4 : (1 : Int) * (d + 256 * vl 256 ((db x.natAbs).drop (j + 1))) ≤ 256 ^ j * (d + 256 * vl 256 ((db x.natAbs).drop (j + 1))) := Int.mul_le_mul_of_nonneg_right (by have : (0 : Int) < 256 ^ j := Int.pow_pos (by decide); omega) (by omega)
    have h5 : d + 256 * vl 256 ((db x.natAbs).drop (j + 1)) < 18446744073709551616 := by
      omega
    rw [wrapU_in (n := vl 256 ((db x.natAbs).drop (j + 1)) * 256) (by omega), wrapU_in (n := d) (by omega), wrapU_in (n := vl 256 ((db x.natAbs).drop (j + 1)) * 256 + d) (by omega)]
    refine ok_ret.2 ⟨⟨⟨[], C⟩, j, ?_, by omega, ?_⟩, ?_⟩
    · show IntKind.wrap .i64 ((j : Int) - 1) = _
      rw [wrapI_in (by omega)]
    · rw [hdj, vl_cons]; simp only; omega
    · show (IntKind.wrap .i64 ((j : Int) - 1) + 1).toNat < _
      rw [wrapI_in (by omega)]; omega
  subst hi0
  refine ok_false (by simp) ?_
  rw [List.drop_zero, hvl]
  repeat first
    | with_reducible refine ok_assoc ?_
    | with_reducible refine ok_retB ?_
    | (with_reducible refine ah_newC ?_; refine ok_newL C fun bq w C => ?_)
    | (with_reducible refine ah_ord ?_; refine ok_ordL C fun oq w C => ?_)
    | (with_reducible refine ah_draw ?_; refine ok_drawL C fun w C => ?_)
    | (with_reducible refine ah_ldA ?_; first | refine w_ldA1 C ?_ | refine w_ldA2 C ?_)
    | (with_reducible refine ah_ldA3 ?_; refine w_ldA3 C ?_)
    | (with_reducible refine ah_ldA4 ?_; refine w_ldA4 C ?_)
    | (with_reducible refine ah_chA ?_; first | refine w_chA1 C ?_ | refine w_chA2 C ?_)
    | (with_reducible refine ah_chA3 ?_; refine w_chA3 C ?_)
    | (with_reducible refine ah_wrA ?_; refine w_wrA1 C fun w C => ?_)
  rw [lg_neg]
  rw [iv_lg]
  by_cases hn : x < 0
  · refine ok_tB (by simpa using hn) ?_
    by_cases hr : -9223372036854775808 ≤ x
    · rw [if_pos ⟨ha, hr, by omega⟩]
      refine ok_fB (by simp only [gt_iff_lt, decide_eq_false_iff_not]; omega) ?_
      refine ok_retB (ok_ret.2 ⟨C.below, ?_⟩)
      rw [show IntKind.wrap .i64 (IntKind.wrap .u64 (0 - (x.natAbs : Int))) = x from by rw [wrapU, wrapI]; omega]
    · rw [if_neg (fun h => hr h.2.1)]
      refine ok_tB (by simp only [gt_iff_lt, decide_eq_true_eq]; omega) ?_
      exact ok_retB (ok_ret.2 ⟨C.below, rfl⟩)
  · refine ok_fB (by simpa using hn) ?_
    by_cases hr : x ≤ 9223372036854775807
    · rw [if_pos ⟨ha, by omega, hr⟩]
      refine ok_fB (by simp only [gt_iff_lt, decide_eq_false_iff_not]; omega) ?_
      refine ok_retB (ok_ret.2 ⟨C.below, ?_⟩)
      rw [show IntKind.wrap .i64 (x.natAbs : Int) = x from by rw [wrapI]; omega]
    · rw [if_neg (fun h => hr h.2.2)]
      refine ok_tB (by simp only [gt_iff_lt, decide_eq_true_eq]; omega) ?_
      exact ok_retB (ok_ret.2 ⟨C.below, rfl⟩)
end Go.Proofs.Ytoekfjgikicclaa
