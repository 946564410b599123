/-
  Part of the proof: L34. It states what the functions do; no further condition.
-/
import Derived.Test.YtoekfjgikicclaaL33
set_option linter.unusedVariables false
set_option linter.unusedSimpArgs false
namespace Go.Proofs.Ytoekfjgikicclaa
set_option linter.unusedVariables false
open Go.Sh Go.RowKit
set_option maxRecDepth 100000
/-! ### Shifts are products and quotients -/
theorem fdiv_mul (x : Int) {p : Int} (hp : 0 < p) : Int.fdiv (x * p) p = x := by
  rw [Int.fdiv_eq_ediv_of_nonneg _ (Int.le_of_lt hp), Int.mul_ediv_cancel _ (by omega)]
theorem divZ_fdiv (x : Int) {p : Int} (hp : 0 < p) : (divZ x p).1 = Int.fdiv x p := by
  rw [Int.fdiv_eq_ediv_of_nonneg _ (Int.le_of_lt hp)]
  have h1 := Int.mul_tdiv_add_tmod x p
  have h2 : (Int.tmod x p).natAbs < p.natAbs := by rw [tmod_abs]; exact Nat.mod_lt _ (by omega)
  unfold divZ
  by_cases hk : keeps (Int.tmod x p) p = true
  · rw [if_pos hk]
    have : 0 ≤ Int.tmod x p := by
      unfold keeps at hk
      simp only [Bool.or_eq_true, decide_eq_true_eq, beq_iff_eq, decide_eq_decide] at hk
      omega
    symm
    refine (Int.ediv_eq_iff_of_pos hp).2 ?_
    dsimp only
    rw [Int.mul_comm]
    omega
  · rw [if_neg hk]
    have : Int.tmod x p < 0 := by
      unfold keeps at hk
      simp only [Bool.or_eq_true, decide_eq_true_eq, beq_iff_eq, decide_eq_decide] at hk
      omega
    symm
    refine (Int.ediv_eq_iff_of_pos hp).2 ?_
    show (Int.tdiv x p - 1) * p ≤ x ∧ x < (Int.tdiv x p - 1) * p + p
    rw [Int.sub_mul, Int.one_mul, Int.mul_comm]
    omega
theorem bitN_mul {n : Nat} (hn : n ≠ 0) (k : Nat) : bitN (n * 2 ^ k) = bitN n + k := by
  have h := bl_shift (n := n * 2 ^ k) (q := n) (k := bitN n) (s := k) (Nat.mul_div_cancel _ (Nat.two_pow_pos k)).symm hn (bitN_bl n)
  exact (bl_unique h).symm
theorem fdiv_small (x : Int) (k : Nat) : (Int.fdiv x (2 ^ k)).natAbs ≤ x.natAbs := by
  have hp : (0 : Int) < 2 ^ k := Int.pow_pos (by decide)
  rw [Int.fdiv_eq_ediv_of_nonneg _ (Int.le_of_lt hp)]
  generalize (2 : Int) ^ k = p at *
  have h1 := Int.emod_add_mul_ediv x p
  have h2 := Int.emod_nonneg x (show p ≠ 0 by omega)
  have h3 := Int.emod_lt_of_pos x hp
  rcases Int.lt_or_le x 0 with h | h
  · have h4 : x ≤ x / p := by
      refine (Int.le_ediv_iff_mul_le hp).2 ?_
      have := Int.mul_nonneg (show 0 ≤ -x by omega) (show 0 ≤ p - 1 by omega)
      have e : -x * (p - 1) = x - x * p := by grind
      omega
    have h5 : x / p < 0 := Int.ediv_neg_of_neg_of_pos h hp
    omega
  · have h4 := Int.ediv_le_self p h
    have h5 := Int.ediv_nonneg h (Int.le_of_lt hp)
    omega
theorem shiftR_lg {x k : Int} (hx : ¬ tooBig x.natAbs) (h1 : -32768 ≤ k) (h2 : k ≤ 32768) : shiftR (lg x) k = toldZ (shlZ x k) := by
  unfold shiftR; rw [if_pos (lg_ck hx), if_neg (by omega), iv_lg]
theorem divR_lg {x y : Int} (hx : ¬ tooBig x.natAbs) (hy : ¬ tooBig y.natAbs) (h0 : y ≠ 0) : divR (lg x) (lg y) = (lg (divZ x y).1, lg (divZ x y).2, 0) := by
  unfold divR; rw [if_pos (ck2_zero.2 ⟨lg_ck hx, lg_ck hy⟩), iv_lg, iv_lg, if_neg h0]
theorem pow_db {k N : Nat} (h : k < 8 * N) : (db (2 ^ k)).length ≤ N := by
  refine dgs_length h256 (k := N) ?_
  have e2 : ∀ m : Nat, 256 ^ m = 2 ^ (8 * m) := fun m => by rw [Nat.pow_mul]
  rw [e2]
  exact Nat.pow_lt_pow_right (by decide) h
theorem tb_pow {k : Nat} (h : k < 32768) : ¬ tooBig ((2 : Int) ^ k).natAbs := by
  have e : ((2 : Int) ^ k).natAbs = 2 ^ k := by
    rw [Int.natAbs_pow]; rfl
  rw [e]
  intro hb
  have h1 : 4096 < (db (2 ^ k)).length := hb
  have h2 := pow_db (k := k) (N := 4096) (by omega)
  omega
theorem bitN_le {n K : Nat} (h : (dw n).length ≤ K) : bitN n ≤ 32 * K := by
  have h3 : n < 2 ^ (32 * K) := by
    have h4 := lt_dgs hBW n
    have h5 : BW ^ (dgs BW n).length ≤ BW ^ K := Nat.pow_le_pow_right (by decide) h
    have h6 : ∀ m : Nat, BW ^ m = 2 ^ (32 * m) := fun m => by rw [Nat.pow_mul]
    rw [h6 K] at h5
    exact Nat.lt_of_lt_of_le h4 h5
  unfold bitN
  split
  · omega
  · rename_i h0
    have := (Nat.log2_lt h0).2 h3
    omega
theorem shifts_is (a : Lg) {k : Int} (hk : -9223372036854775808 ≤ k ∧ k ≤ 9223372036854775807) : Is (f8_palaverlaw09_LargeShifts a k) true := by
  intro wb
  unfold f8_palaverlaw09_LargeShifts
  have C := Cx.nil No wb
  repeat first
    | with_reducible refine ok_assoc ?_
    | with_reducible refine ok_retB ?_
    | with_reducible refine ok_is C (works_is) fun w C => ?_
    | with_reducible refine ok_is C (check_is _) fun w C => ?_
    | (with_reducible refine ah_newC ?_; refine ok_newL C fun bq w C => ?_)
    | (with_reducible refine ah_ord ?_; refine ok_ordL C fun oq w C => ?_)
    | (with_reducible refine ah_draw ?_; refine ok_drawL C fun w C => ?_)
    | (with_reducible refine ah_ldA ?_; first | refine w_ldA1 C ?_ | refine w_ldA2 C ?_)
    | (with_reducible refine ah_ldA3 ?_; refine w_ldA3 C ?_)
    | (with_reducible refine ah_ldA4 ?_; refine w_ldA4 C ?_)
    | (with_reducible refine ah_ldN ?_; first | refine w_ldN1 C ?_ | refine w_ldN2 C ?_)
    | (with_reducible refine ah_ldN3 ?_; refine w_ldN3 C ?_)
    | (with_reducible refine ah_ldN4 ?_; refine w_ldN4 C ?_)
    | (with_reducible refine ah_chA ?_; first | refine w_chA1 C ?_ | refine w_chA2 C ?_)
    | (with_reducible refine ah_chA3 ?_; refine w_chA3 C ?_)
    | (with_reducible refine ah_chN ?_; first | refine w_chN1 C ?_ | refine w_chN2 C ?_)
    | (with_reducible refine ah_chN4 ?_; refine w_chN4 C ?_)
    | (with_reducible refine ah_wrA ?_; refine w_wrA1 C fun w C => ?_)
    | (with_reducible refine ah_wrN ?_; refine w_wrN1 C fun w C => ?_)
    | (with_reducible refine ah_wrN2 ?_; refine w_wrN2 C fun w C => ?_)
    | (with_reducible refine ah_wrN3 ?_; refine w_wrN3 C fun w C => ?_)
  by_cases ha : ck a = 0 ∧ 0 ≤ k ∧ k ≤ 4000
  rotate_left
  · refine ok_true ?_ (ok_ret.2 ⟨C.below, rfl⟩)
    rw [Bool.eq_iff_iff]
    simp only [Bool.cond_true_left, Bool.or_eq_true, bne_iff_ne, ne_eq, iff_true, decide_eq_true_eq]
    by_cases h1 : ck a = 0
    · have : ¬ (0 ≤ k ∧ k ≤ 4000) := fun h => ha ⟨h1, h⟩
      omega
    · exact .inl (.inl h1)
  obtain ⟨ha, h0, h4⟩ := ha
  refine ok_false (by rw [ha]; simp [show ¬ k < 0 by omega, show ¬ 4000 < k by omega]) ?_
  obtain ⟨x, rfl, hx⟩ := ck_ex ha
  obtain ⟨n, rfl⟩ := Int.eq_ofNat_of_zero_le h0
  have hp : (0 : Int) < 2 ^ n := Int.pow_pos (by decide)
  have ht := tb_pow (k := n) (by omega)
  have k1 := shift_is (lg 1) (k := (n : Int)) (by omega)
  rw [shiftR_lg (tb_small (by decide)) (by omega) (by omega), show shlZ 1 (n : Int) = 2 ^ n from by unfold shlZ; rw [if_pos (by omega), Int.toNat_natCast, Int.one_mul], toldZ_fine ht] at k1
  have k2 := shift_is (lg x) (k := (n : Int)) (by omega)
  rw [shiftR_lg hx (by omega) (by omega), show shlZ x (n : Int) = x * 2 ^ n from by unfold shlZ; rw [if_pos (by omega), Int.toNat_natCast]] at k2
  by_cases hb : tooBig (x * 2 ^ n).natAbs
  · have e : toldZ (x * 2 ^ n) = (zr, 92) := by unfold toldZ; rw [if_pos hb]
    rw [e] at k2
    repeat first
      | with_reducible refine ok_assoc ?_
      | with_reducible refine ok_retB ?_
      | with_reducible refine ok_is C (ex_of 1 (by decide) (by decide)) fun w C => ?_
      | with_reducible refine ok_is C (k1) fun w C => ?_
      | with_reducible refine ok_is C (k2) fun w C => ?_
      | (with_reducible refine ah_newC ?_; refine ok_newL C fun bq w C => ?_)
      | (with_reducible refine ah_ord ?_; refine ok_ordL C fun oq w C => ?_)
      | (with_reducible refine ah_draw ?_; refine ok_drawL C fun w C => ?_)
      | (with_reducible refine ah_ldA ?_; first | refine w_ldA1 C ?_ | refine w_ldA2 C ?_)
      | (with_reducible refine ah_ldA3 ?_; refine w_ldA3 C ?_)
      | (with_reducible refine ah_ldA4 ?_; refine w_ldA4 C ?_)
      | (with_reducible refine ah_ldN ?_; first | refine w_ldN1 C ?_ | refine w_ldN2 C ?_)
      | (with_reducible refine ah_ldN3 ?_; refine w_ldN3 C ?_)
      | (with_reducible refine ah_ldN4 ?_; refine w_ldN4 C ?_)
      | (with_reducible refine ah_chA ?_; first | refine w_chA1 C ?_ | refine w_chA2 C ?_)
      | (with_reducible refine ah_chA3 ?_; refine w_chA3 C ?_)
      | (with_reducible refine ah_chN ?_; first | refine w_chN1 C ?_ | refine w_chN2 C ?_)
      | (with_reducible refine ah_chN4 ?_; refine w_chN4 C ?_)
      | (with_reducible refine ah_wrA ?_; refine w_wrA1 C fun w C => ?_)
      | (with_reducible refine ah_wrN ?_; refine w_wrN1 C fun w C => ?_)
      | (with_reducible refine ah_wrN2 ?_; refine w_wrN2 C fun w C => ?_)
      | (with_reducible refine ah_wrN3 ?_; refine w_wrN3 C fun w C => ?_)
    exact ok_true rfl (ok_ret.2 ⟨C.below, rfl⟩)
  rw [toldZ_fine hb] at k2
  have k3 := mul_is (lg x) (lg (2 ^ n))
  rw [mulR_lg hx ht, toldZ_fine hb] at k3
  have e4 : shlZ (x * 2 ^ n) (-(n : Int)) = x := by
    unfold shlZ
    by_cases hn : n = 0
    · subst hn; simp
    · rw [if_neg (by omega), show (- -(n : Int)).toNat = n by omega, fdiv_mul x hp]
  have k4 := shift_is (lg (x * 2 ^ n)) (k := -(n : Int)) (by omega)
  rw [shiftR_lg hb (by omega) (by omega), e4, toldZ_fine hx] at k4
  have e5 : shlZ x (-(n : Int)) = Int.fdiv x (2 ^ n) := by
    unfold shlZ
    by_cases hn : n = 0
    · subst hn; simp
    · rw [if_neg (by omega), show (- -(n : Int)).toNat = n by omega]
  have k5 := shift_is (lg x) (k := -(n : Int)) (by omega)
  rw [shiftR_lg hx (by omega) (by omega), e5, toldZ_fine (tb_le hx (fdiv_small x n))] at k5
  have k6 := div_is (lg x) (lg (2 ^ n))
  rw [divR_lg hx ht (by omega), divZ_fdiv x hp] at k6
  have k7 := bits_is (lg x)
  have k8 := bits_is (lg (x * 2 ^ n))
  unfold bitsR at k7 k8
  rw [if_pos ha, nv_lg] at k7
  rw [if_pos (lg_ck hb), nv_lg] at k8
  have e6 : IntKind.wrap .i64 (0 - (n : Int)) = -(n : Int) := by rw [wrapI_in (by omega)]; omega
  rw [e6]
  repeat first
    | with_reducible refine ok_assoc ?_
    | with_reducible refine ok_retB ?_
    | with_reducible refine ok_is C (ex_of 1 (by decide) (by decide)) fun w C => ?_
    | with_reducible refine ok_is C (k1) fun w C => ?_
    | with_reducible refine ok_is C (k2) fun w C => ?_
    | (with_reducible refine ah_newC ?_; refine ok_newL C fun bq w C => ?_)
    | (with_reducible refine ah_ord ?_; refine ok_ordL C fun oq w C => ?_)
    | (with_reducible refine ah_draw ?_; refine ok_drawL C fun w C => ?_)
    | (with_reducible refine ah_ldA ?_; first | refine w_ldA1 C ?_ | refine w_ldA2 C ?_)
    | (with_reducible refine ah_ldA3 ?_; refine w_ldA3 C ?_)
    | (with_reducible refine ah_ldA4 ?_; refine w_ldA4 C ?_)
    | (with_reducible refine ah_ldN ?_; first | refine w_ldN1 C ?_ | refine w_ldN2 C ?_)
    | (with_reducible refine ah_ldN3 ?_; refine w_ldN3 C ?_)
    | (with_reducible refine ah_ldN4 ?_; refine w_ldN4 C ?_)
    | (with_reducible refine ah_chA ?_; first | refine w_chA1 C ?_ | refine w_chA2 C ?_)
    | (with_reducible refine ah_chA3 ?_; refine w_chA3 C ?_)
    | (with_reducible refine ah_chN ?_; first | refine w_chN1 C ?_ | refine w_chN2 C ?_)
    | (with_reducible refine ah_chN4 ?_; refine w_chN4 C ?_)
    | (with_reducible refine ah_wrA ?_; refine w_wrA1 C fun w C => ?_)
    | (with_reducible refine ah_wrN ?_; refine w_wrN1 C fun w C => ?_)
    | (with_reducible refine ah_wrN2 ?_; refine w_wrN2 C fun w C => ?_)
    | (with_reducible refine ah_wrN3 ?_; refine w_wrN3 C fun w C => ?_)
  refine ok_false rfl ?_
  repeat first
    | with_reducible refine ok_assoc ?_
    | with_reducible refine ok_retB ?_
    | with_reducible refine ok_is C (k3) fun w C => ?_
    | with_reducible refine ok_is C (k4) fun w C => ?_
    | with_reducible refine ok_is C (k5) fun w C => ?_
    | with_reducible refine ok_is C (k6) fun w C => ?_
    | with_reducible refine ok_is C (k7) fun w C => ?_
    | with_reducible refine ok_is C (k8) fun w C => ?_
    | (with_reducible refine ah_newC ?_; refine ok_newL C fun bq w C => ?_)
    | (with_reducible refine ah_ord ?_; refine ok_ordL C fun oq w C => ?_)
    | (with_reducible refine ah_draw ?_; refine ok_drawL C fun w C => ?_)
    | (with_reducible refine ah_ldA ?_; first | refine w_ldA1 C ?_ | refine w_ldA2 C ?_)
    | (with_reducible refine ah_ldA3 ?_; refine w_ldA3 C ?_)
    | (with_reducible refine ah_ldA4 ?_; refine w_ldA4 C ?_)
    | (with_reducible refine ah_ldN ?_; first | refine w_ldN1 C ?_ | refine w_ldN2 C ?_)
    | (with_reducible refine ah_ldN3 ?_; refine w_ldN3 C ?_)
    | (with_reducible refine ah_ldN4 ?_; refine w_ldN4 C ?_)
    | (with_reducible refine ah_chA ?_; first | refine w_chA1 C ?_ | refine w_chA2 C ?_)
    | (with_reducible refine ah_chA3 ?_; refine w_chA3 C ?_)
    | (with_reducible refine ah_chN ?_; first | refine w_chN1 C ?_ | refine w_chN2 C ?_)
    | (with_reducible refine ah_chN4 ?_; refine w_chN4 C ?_)
    | (with_reducible refine ah_wrA ?_; refine w_wrA1 C fun w C => ?_)
    | (with_reducible refine ah_wrN ?_; refine w_wrN1 C fun w C => ?_)
    | (with_reducible refine ah_wrN2 ?_; refine w_wrN2 C fun w C => ?_)
    | (with_reducible refine ah_wrN3 ?_; refine w_wrN3 C fun w C => ?_)
  refine ok_tB rfl ?_
  repeat first
    | with_reducible refine ok_assoc ?_
    | with_reducible refine ok_retB ?_
    | (with_reducible refine ah_newC ?_; refine ok_newL C fun bq w C => ?_)
    | (with_reducible refine ah_ord ?_; refine ok_ordL C fun oq w C => ?_)
    | (with_reducible refine ah_draw ?_; refine ok_drawL C fun w C => ?_)
    | (with_reducible refine ah_ldA ?_; first | refine w_ldA1 C ?_ | refine w_ldA2 C ?_)
    | (with_reducible refine ah_ldA3 ?_; refine w_ldA3 C ?_)
    | (with_reducible refine ah_ldA4 ?_; refine w_ldA4 C ?_)
    | (with_reducible refine ah_ldN ?_; first | refine w_ldN1 C ?_ | refine w_ldN2 C ?_)
    | (with_reducible refine ah_ldN3 ?_; refine w_ldN3 C ?_)
    | (with_reducible refine ah_ldN4 ?_; refine w_ldN4 C ?_)
    | (with_reducible refine ah_chA ?_; first | refine w_chA1 C ?_ | refine w_chA2 C ?_)
    | (with_reducible refine ah_chA3 ?_; refine w_chA3 C ?_)
    | (with_reducible refine ah_chN ?_; first | refine w_chN1 C ?_ | refine w_chN2 C ?_)
    | (with_reducible refine ah_chN4 ?_; refine w_chN4 C ?_)
    | (with_reducible refine ah_wrA ?_; refine w_wrA1 C fun w C => ?_)
    | (with_reducible refine ah_wrN ?_; refine w_wrN1 C fun w C => ?_)
    | (with_reducible refine ah_wrN2 ?_; refine w_wrN2 C fun w C => ?_)
    | (with_reducible refine ah_wrN3 ?_; refine w_wrN3 C fun w C => ?_)
  refine ok_tB (by simp [strEq_eq]) ?_
  repeat first
    | with_reducible refine ok_assoc ?_
    | with_reducible refine ok_retB ?_
    | (with_reducible refine ah_newC ?_; refine ok_newL C fun bq w C => ?_)
    | (with_reducible refine ah_ord ?_; refine ok_ordL C fun oq w C => ?_)
    | (with_reducible refine ah_draw ?_; refine ok_drawL C fun w C => ?_)
    | (with_reducible refine ah_ldA ?_; first | refine w_ldA1 C ?_ | refine w_ldA2 C ?_)
    | (with_reducible refine ah_ldA3 ?_; refine w_ldA3 C ?_)
    | (with_reducible refine ah_ldA4 ?_; refine w_ldA4 C ?_)
    | (with_reducible refine ah_ldN ?_; first | refine w_ldN1 C ?_ | refine w_ldN2 C ?_)
    | (with_reducible refine ah_ldN3 ?_; refine w_ldN3 C ?_)
    | (with_reducible refine ah_ldN4 ?_; refine w_ldN4 C ?_)
    | (with_reducible refine ah_chA ?_; first | refine w_chA1 C ?_ | refine w_chA2 C ?_)
    | (with_reducible refine ah_chA3 ?_; refine w_chA3 C ?_)
    | (with_reducible refine ah_chN ?_; first | refine w_chN1 C ?_ | refine w_chN2 C ?_)
    | (with_reducible refine ah_chN4 ?_; refine w_chN4 C ?_)
    | (with_reducible refine ah_wrA ?_; refine w_wrA1 C fun w C => ?_)
    | (with_reducible refine ah_wrN ?_; refine w_wrN1 C fun w C => ?_)
    | (with_reducible refine ah_wrN2 ?_; refine w_wrN2 C fun w C => ?_)
    | (with_reducible refine ah_wrN3 ?_; refine w_wrN3 C fun w C => ?_)
  refine ok_tB (by simp [strEq_eq]) ?_
  refine ok_assoc (ok_fB rfl ?_)
  repeat first
    | with_reducible refine ok_assoc ?_
    | with_reducible refine ok_retB ?_
    | (with_reducible refine ah_newC ?_; refine ok_newL C fun bq w C => ?_)
    | (with_reducible refine ah_ord ?_; refine ok_ordL C fun oq w C => ?_)
    | (with_reducible refine ah_draw ?_; refine ok_drawL C fun w C => ?_)
    | (with_reducible refine ah_ldA ?_; first | refine w_ldA1 C ?_ | refine w_ldA2 C ?_)
    | (with_reducible refine ah_ldA3 ?_; refine w_ldA3 C ?_)
    | (with_reducible refine ah_ldA4 ?_; refine w_ldA4 C ?_)
    | (with_reducible refine ah_ldN ?_; first | refine w_ldN1 C ?_ | refine w_ldN2 C ?_)
    | (with_reducible refine ah_ldN3 ?_; refine w_ldN3 C ?_)
    | (with_reducible refine ah_ldN4 ?_; refine w_ldN4 C ?_)
    | (with_reducible refine ah_chA ?_; first | refine w_chA1 C ?_ | refine w_chA2 C ?_)
    | (with_reducible refine ah_chA3 ?_; refine w_chA3 C ?_)
    | (with_reducible refine ah_chN ?_; first | refine w_chN1 C ?_ | refine w_chN2 C ?_)
    | (with_reducible refine ah_chN4 ?_; refine w_chN4 C ?_)
    | (with_reducible refine ah_wrA ?_; refine w_wrA1 C fun w C => ?_)
    | (with_reducible refine ah_wrN ?_; refine w_wrN1 C fun w C => ?_)
    | (with_reducible refine ah_wrN2 ?_; refine w_wrN2 C fun w C => ?_)
    | (with_reducible refine ah_wrN3 ?_; refine w_wrN3 C fun w C => ?_)
  refine ok_ret.2 ⟨C.below, ?_⟩
  have hbn : bitN x.natAbs ≤ 32 * 1024 := bitN_le (by have h2 := dw_len_ok ha; rw [nv_lg] at h2; exact h2)
  by_cases hx0 : x = 0
  · subst hx0
    have e7 : bitN (0 : Int).natAbs = 0 := rfl
    rw [Int.zero_mul, e7]
    simp [strEq_eq]
  · have e8 : bitN (x * 2 ^ n).natAbs = bitN x.natAbs + n := by
      rw [Int.natAbs_mul, Int.natAbs_pow]; exact bitN_mul (by omega) n
    rw [e8, wrapI_in (by omega)]
    simp [strEq_eq]
end Go.Proofs.Ytoekfjgikicclaa
