/-
  Part of the proof: L32. It states what the functions do; no further condition.
-/
import Derived.Test.YtoekfjgikicclaaL31
set_option linter.unusedVariables false
set_option linter.unusedSimpArgs false
namespace Go.Proofs.Ytoekfjgikicclaa
set_option linter.unusedVariables false
open Go.Sh Go.RowKit
set_option maxRecDepth 100000
/-! ### The laws that do without the document's answer -/
theorem is_true {m : M Bool} (h : Is m true) (w : World) : Ok m w fun r w' => r = true ∧ Below w.heap.size w w' := ok_mono (h w) fun _ _ h => ⟨h.2, h.1⟩
theorem toldZ_ok {z : Int} (h : (toldZ z).2 = 0) : toldZ z = (lg z, 0) ∧ ¬ tooBig z.natAbs := by
  unfold toldZ at h ⊢
  by_cases hb : tooBig z.natAbs
  · rw [if_pos hb] at h; cases h
  · rw [if_neg hb]; exact ⟨rfl, hb⟩
theorem toldZ_fine {z : Int} (h : ¬ tooBig z.natAbs) : toldZ z = (lg z, 0) := by unfold toldZ; rw [if_neg h]
theorem addR_lg {x y : Int} (hx : ¬ tooBig x.natAbs) (hy : ¬ tooBig y.natAbs) : addR (lg x) (lg y) = toldZ (x + y) := by
  unfold addR; rw [if_pos (ck2_zero.2 ⟨lg_ck hx, lg_ck hy⟩), iv_lg, iv_lg]
theorem subR_lg {x y : Int} (hx : ¬ tooBig x.natAbs) (hy : ¬ tooBig y.natAbs) : subR (lg x) (lg y) = toldZ (x - y) := by
  unfold subR; rw [if_pos (ck2_zero.2 ⟨lg_ck hx, lg_ck hy⟩), iv_lg, iv_lg]
theorem mulR_lg {x y : Int} (hx : ¬ tooBig x.natAbs) (hy : ¬ tooBig y.natAbs) : mulR (lg x) (lg y) = toldZ (x * y) := by
  unfold mulR; rw [if_pos (ck2_zero.2 ⟨lg_ck hx, lg_ck hy⟩), iv_lg, iv_lg]
theorem cmpR_lg {x y : Int} (hx : ¬ tooBig x.natAbs) (hy : ¬ tooBig y.natAbs) : cmpR (lg x) (lg y) = (cmpZ x y, 0) := by
  unfold cmpR; rw [if_pos (ck2_zero.2 ⟨lg_ck hx, lg_ck hy⟩), iv_lg, iv_lg]
theorem tb_zero : ¬ tooBig (0 : Int).natAbs := tb_small (by decide)
theorem cmpZ_neg (x y : Int) : cmpZ x y = - cmpZ y x := by unfold cmpZ; (repeat' split) <;> omega
theorem cmpZ_sub (x y : Int) : cmpZ (x - y) 0 = cmpZ x y := by unfold cmpZ; (repeat' split) <;> omega
theorem cmpZ_rng (x y : Int) : -1 ≤ cmpZ x y ∧ cmpZ x y ≤ 1 := by unfold cmpZ; (repeat' split) <;> omega
theorem zr_ld : (false, ByteArray.mk #[]) = lg 0 := lg_zero.symm
theorem logR_lg {f : Bool → Bool → Bool} {x y : Int} (hx : ¬ tooBig x.natAbs) (hy : ¬ tooBig y.natAbs) : logR f (lg x) (lg y) = toldZ (logZ f x y) := by
  unfold logR; rw [if_pos (ck2_zero.2 ⟨lg_ck hx, lg_ck hy⟩), iv_lg, iv_lg]
theorem toldZ_two (z : Int) : (toldZ z).2 = 0 ∨ (toldZ z).2 = 92 := by unfold toldZ; split <;> simp
theorem tb_one : ¬ tooBig (-1 : Int).natAbs := tb_small (by decide)
/-! ### Shifts are products and quotients -/
theorem fdiv_mul (x : Int) {p : Int} (hp : 0 < p) : Int.fdiv (x * p) p = x := by
  rw [Int.fdiv_eq_ediv_of_nonneg _ (Int.le_of_lt hp), Int.mul_ediv_cancel _ (by omega)]
theorem divZ_fdiv (x : Int) {p : Int} (hp : 0 < p) : (divZ x p).1 = Int.fdiv x p := by
  rw [Int.fdiv_eq_ediv_of_nonneg _ (Int.le_of_lt hp)]
  have h1 := Int.mul_tdiv_add_tmod x p
  have h2 : (Int.tmod x p).natAbs < p.natAbs := by rw [tmod_abs]; exact Nat.mod_lt _ (by omega)
  unfold divZ
  by_cases hk : keeps (Int.tmod x p) p = true
  · rw [if_pos hk]
    have : 0 ≤ Int.tmod x p := by
      unfold keeps at hk
      simp only [Bool.or_eq_true, decide_eq_true_eq, beq_iff_eq, decide_eq_decide] at hk
      omega
    symm
    refine (Int.ediv_eq_iff_of_pos hp).2 ?_
    dsimp only
    rw [Int.mul_comm]
    omega
  · rw [if_neg hk]
    have : Int.tmod x p < 0 := by
      unfold keeps at hk
      simp only [Bool.or_eq_true, decide_eq_true_eq, beq_iff_eq, decide_eq_decide] at hk
      omega
    symm
    refine (Int.ediv_eq_iff_of_pos hp).2 ?_
    show (Int.tdiv x p - 1) * p ≤ x ∧ x < (Int.tdiv x p - 1) * p + p
    rw [Int.sub_mul, Int.one_mul, Int.mul_comm]
    omega
theorem bitN_mul {n : Nat} (hn : n ≠ 0) (k : Nat) : bitN (n * 2 ^ k) = bitN n + k := by
  have h := bl_shift (n := n * 2 ^ k) (q := n) (k := bitN n) (s := k) (Nat.mul_div_cancel _ (Nat.two_pow_pos k)).symm hn (bitN_bl n)
  exact (bl_unique h).symm
theorem fdiv_small (x : Int) (k : Nat) : (Int.fdiv x (2 ^ k)).natAbs ≤ x.natAbs := by
  have hp : (0 : Int) < 2 ^ k := Int.pow_pos (by decide)
  rw [Int.fdiv_eq_ediv_of_nonneg _ (Int.le_of_lt hp)]
  generalize (2 : Int) ^ k = p at *
  have h1 := Int.emod_add_mul_ediv x p
  have h2 := Int.emod_nonneg x (show p ≠ 0 by omega)
  have h3 := Int.emod_lt_of_pos x hp
  rcases Int.lt_or_le x 0 with h | h
  · have h4 : x ≤ x / p := by
      refine (Int.le_ediv_iff_mul_le hp).2 ?_
      have := Int.mul_nonneg (show 0 ≤ -x by omega) (show 0 ≤ p - 1 by omega)
      have e : -x * (p - 1) = x - x * p := by grind
      omega
    have h5 : x / p < 0 := Int.ediv_neg_of_neg_of_pos h hp
    omega
  · have h4 := Int.ediv_le_self p h
    have h5 := Int.ediv_nonneg h (Int.le_of_lt hp)
    omega
theorem shiftR_lg {x k : Int} (hx : ¬ tooBig x.natAbs) (h1 : -32768 ≤ k) (h2 : k ≤ 32768) : shiftR (lg x) k = toldZ (shlZ x k) := by
  unfold shiftR; rw [if_pos (lg_ck hx), if_neg (by omega), iv_lg]
theorem divR_lg {x y : Int} (hx : ¬ tooBig x.natAbs) (hy : ¬ tooBig y.natAbs) (h0 : y ≠ 0) : divR (lg x) (lg y) = (lg (divZ x y).1, lg (divZ x y).2, 0) := by
  unfold divR; rw [if_pos (ck2_zero.2 ⟨lg_ck hx, lg_ck hy⟩), iv_lg, iv_lg, if_neg h0]
theorem pow_db {k N : Nat} (h : k < 8 * N) : (db (2 ^ k)).length ≤ N := by
  refine dgs_length h256 (k := N) ?_
  have e2 : ∀ m : Nat, 256 ^ m = 2 ^ (8 * m) := fun m => by rw [Nat.pow_mul]
  rw [e2]
  exact Nat.pow_lt_pow_right (by decide) h
theorem tb_pow {k : Nat} (h : k < 32768) : ¬ tooBig ((2 : Int) ^ k).natAbs := by
  have e : ((2 : Int) ^ k).natAbs = 2 ^ k := by
    rw [Int.natAbs_pow]; rfl
  rw [e]
  intro hb
  have h1 : 4096 < (db (2 ^ k)).length := hb
  have h2 := pow_db (k := k) (N := 4096) (by omega)
  omega
theorem bitN_le {n K : Nat} (h : (dw n).length ≤ K) : bitN n ≤ 32 * K := by
  have h3 : n < 2 ^ (32 * K) := by
    have h4 := lt_dgs hBW n
    have h5 : BW ^ (dgs BW n).length ≤ BW ^ K := Nat.pow_le_pow_right (by decide) h
    have h6 : ∀ m : Nat, BW ^ m = 2 ^ (32 * m) := fun m => by rw [Nat.pow_mul]
    rw [h6 K] at h5
    exact Nat.lt_of_lt_of_le h4 h5
  unfold bitN
  split
  · omega
  · rename_i h0
    have := (Nat.log2_lt h0).2 h3
    omega
/-! ### What is added is taken away again; a quotient and what it leaves make the number up -/
theorem tmod_lt (x : Int) {y : Int} (h : y ≠ 0) : (Int.tmod x y).natAbs < y.natAbs := by rw [tmod_abs]; exact Nat.mod_lt _ (by omega)
theorem tmod_sign (x y : Int) : Int.tmod x y = 0 ∨ (Int.tmod x y < 0 ↔ x < 0) := by
  rcases Int.lt_or_le x 0 with h | h
  · have := Int.tmod_nonneg (a := -x) y (by omega)
    rw [Int.neg_tmod] at this
    omega
  · have := Int.tmod_nonneg (a := x) y h
    omega
theorem divZ_facts (x : Int) {y : Int} (h : y ≠ 0) : (divZ x y).1 * y + (divZ x y).2 = x ∧ (divZ x y).2.natAbs < y.natAbs ∧ ((divZ x y).2 = 0 ∨ ((divZ x y).2 < 0 ↔ y < 0)) ∧ (divZ x y).1.natAbs ≤ x.natAbs := by
  have h1 := Int.mul_tdiv_add_tmod x y
  have h2 := tmod_lt x h
  have h3 := tdiv_abs x y
  have h4 := tmod_abs x y
  have hd : (Int.tdiv x y).natAbs ≤ x.natAbs := by rw [h3]; exact Nat.div_le_self _ _
  unfold divZ
  by_cases hk : keeps (Int.tmod x y) y = true
  · rw [if_pos hk]
    dsimp only
    refine ⟨by rw [Int.mul_comm]; exact h1, h2, ?_, hd⟩
    unfold keeps at hk
    simp only [Bool.or_eq_true, decide_eq_true_eq, beq_iff_eq, decide_eq_decide] at hk
    exact hk
  · rw [if_neg hk]
    dsimp only
    unfold keeps at hk
    simp only [Bool.or_eq_true, decide_eq_true_eq, beq_iff_eq, decide_eq_decide, not_or] at hk
    refine ⟨by rw [Int.sub_mul, Int.one_mul, Int.mul_comm]; omega, by omega, by omega, ?_⟩
    have := div_adj (n := x.natAbs) (m := y.natAbs) (by omega) (by rw [← h4]; omega)
    omega
theorem divZ_mul (x : Int) {y : Int} (h : y ≠ 0) : divZ (x * y) y = (x, 0) := by
  unfold divZ
  rw [Int.mul_tmod_left, Int.mul_tdiv_cancel _ h]
  rfl
theorem quoR_lg {x y : Int} (hx : ¬ tooBig x.natAbs) (hy : ¬ tooBig y.natAbs) (h0 : y ≠ 0) : quoR (lg x) (lg y) = (lg (Int.tdiv x y), lg (Int.tmod x y), 0) := by
  unfold quoR; rw [if_pos (ck2_zero.2 ⟨lg_ck hx, lg_ck hy⟩), iv_lg, iv_lg, if_neg h0]
theorem abs_lg (z : Int) : ((false, (lg z).2) : Lg) = lg (z.natAbs : Int) := by
  unfold lg lgN
  rw [Int.natAbs_natCast]
  have : decide ((z.natAbs : Int) < 0) = false := by simp
  rw [this]; rfl
theorem cmp_abs {r y : Int} (hr : ¬ tooBig r.natAbs) (hy : ¬ tooBig y.natAbs) (h : r.natAbs < y.natAbs) : Is (f39_largeint_Cmp (false, (lg r).2) (false, (lg y).2)) (-1, 0) := by
  have := cmp_is (lg (r.natAbs : Int)) (lg (y.natAbs : Int))
  rw [cmpR_lg (by rw [Int.natAbs_natCast]; exact hr) (by rw [Int.natAbs_natCast]; exact hy)] at this
  rw [abs_lg, abs_lg]
  have e : cmpZ (r.natAbs : Int) (y.natAbs : Int) = -1 := by unfold cmpZ; rw [if_pos (by omega)]
  rw [e] at this
  exact this
theorem zr_test (z : Int) : ((lg z).1 == false && strEq (lg z).2 (ByteArray.mk #[])) = decide (z = 0) := by
  rw [strEq_eq, lg_neg, Bool.eq_iff_iff]
  simp only [Bool.and_eq_true, beq_iff_eq, decide_eq_false_iff_not, decide_eq_true_eq, lg_mk]
  omega
end Go.Proofs.Ytoekfjgikicclaa
