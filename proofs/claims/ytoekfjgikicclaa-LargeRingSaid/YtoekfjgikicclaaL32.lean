/-
  Part of the proof: L32. It states what the functions do; no further condition.
-/
import Derived.Test.YtoekfjgikicclaaL31
set_option linter.unusedVariables false
set_option linter.unusedSimpArgs false
namespace Go.Proofs.Ytoekfjgikicclaa
set_option linter.unusedVariables false
open Go.Sh Go.RowKit
set_option maxRecDepth 100000
/-! ### The laws that do without the document's answer -/
theorem is_true {m : M Bool} (h : Is m true) (w : World) : Ok m w fun r w' => r = true ∧ Below w.heap.size w w' := ok_mono (h w) fun _ _ h => ⟨h.2, h.1⟩
theorem toldZ_ok {z : Int} (h : (toldZ z).2 = 0) : toldZ z = (lg z, 0) ∧ ¬ tooBig z.natAbs := by
  unfold toldZ at h ⊢
  by_cases hb : tooBig z.natAbs
  · rw [if_pos hb] at h; cases h
  · rw [if_neg hb]; exact ⟨rfl, hb⟩
theorem toldZ_fine {z : Int} (h : ¬ tooBig z.natAbs) : toldZ z = (lg z, 0) := by unfold toldZ; rw [if_neg h]
theorem addR_lg {x y : Int} (hx : ¬ tooBig x.natAbs) (hy : ¬ tooBig y.natAbs) : addR (lg x) (lg y) = toldZ (x + y) := by
  unfold addR; rw [if_pos (ck2_zero.2 ⟨lg_ck hx, lg_ck hy⟩), iv_lg, iv_lg]
theorem subR_lg {x y : Int} (hx : ¬ tooBig x.natAbs) (hy : ¬ tooBig y.natAbs) : subR (lg x) (lg y) = toldZ (x - y) := by
  unfold subR; rw [if_pos (ck2_zero.2 ⟨lg_ck hx, lg_ck hy⟩), iv_lg, iv_lg]
theorem mulR_lg {x y : Int} (hx : ¬ tooBig x.natAbs) (hy : ¬ tooBig y.natAbs) : mulR (lg x) (lg y) = toldZ (x * y) := by
  unfold mulR; rw [if_pos (ck2_zero.2 ⟨lg_ck hx, lg_ck hy⟩), iv_lg, iv_lg]
theorem cmpR_lg {x y : Int} (hx : ¬ tooBig x.natAbs) (hy : ¬ tooBig y.natAbs) : cmpR (lg x) (lg y) = (cmpZ x y, 0) := by
  unfold cmpR; rw [if_pos (ck2_zero.2 ⟨lg_ck hx, lg_ck hy⟩), iv_lg, iv_lg]
theorem tb_zero : ¬ tooBig (0 : Int).natAbs := tb_small (by decide)
theorem cmpZ_neg (x y : Int) : cmpZ x y = - cmpZ y x := by unfold cmpZ; (repeat' split) <;> omega
theorem cmpZ_sub (x y : Int) : cmpZ (x - y) 0 = cmpZ x y := by unfold cmpZ; (repeat' split) <;> omega
theorem cmpZ_rng (x y : Int) : -1 ≤ cmpZ x y ∧ cmpZ x y ≤ 1 := by unfold cmpZ; (repeat' split) <;> omega
theorem zr_ld : (false, ByteArray.mk #[]) = lg 0 := lg_zero.symm
theorem ring_is (a b c : Lg) : Is (f10_palaverlaw09_LargeRing a b c) true := by
  intro wb
  unfold f10_palaverlaw09_LargeRing
  have C := Cx.nil No wb
  by_cases ha : ck a = 0
  rotate_left
  · skip
    repeat first
      | with_reducible refine ok_assoc ?_
      | with_reducible refine ok_retB ?_
      | with_reducible refine ok_is C (works_is) fun w C => ?_
      | with_reducible refine ok_is C (add_is _ _) fun w C => ?_
      | with_reducible refine ok_is C (mul_is _ _) fun w C => ?_
      | with_reducible refine ok_is C (check_is _) fun w C => ?_
      | (with_reducible refine ah_newC ?_; refine ok_newL C fun bq w C => ?_)
      | (with_reducible refine ah_ord ?_; refine ok_ordL C fun oq w C => ?_)
      | (with_reducible refine ah_draw ?_; refine ok_drawL C fun w C => ?_)
      | (with_reducible refine ah_ldA ?_; first | refine w_ldA1 C ?_ | refine w_ldA2 C ?_)
      | (with_reducible refine ah_ldA3 ?_; refine w_ldA3 C ?_)
      | (with_reducible refine ah_ldA4 ?_; refine w_ldA4 C ?_)
      | (with_reducible refine ah_ldN ?_; first | refine w_ldN1 C ?_ | refine w_ldN2 C ?_)
      | (with_reducible refine ah_ldN3 ?_; refine w_ldN3 C ?_)
      | (with_reducible refine ah_ldN4 ?_; refine w_ldN4 C ?_)
      | (with_reducible refine ah_chA ?_; first | refine w_chA1 C ?_ | refine w_chA2 C ?_)
      | (with_reducible refine ah_chA3 ?_; refine w_chA3 C ?_)
      | (with_reducible refine ah_chN ?_; first | refine w_chN1 C ?_ | refine w_chN2 C ?_)
      | (with_reducible refine ah_chN4 ?_; refine w_chN4 C ?_)
      | (with_reducible refine ah_wrA ?_; refine w_wrA1 C fun w C => ?_)
      | (with_reducible refine ah_wrN ?_; refine w_wrN1 C fun w C => ?_)
      | (with_reducible refine ah_wrN2 ?_; refine w_wrN2 C fun w C => ?_)
      | (with_reducible refine ah_wrN3 ?_; refine w_wrN3 C fun w C => ?_)
    refine ok_tB (by simpa using ha) ?_
    repeat first
      | with_reducible refine ok_assoc ?_
      | with_reducible refine ok_retB ?_
      | (with_reducible refine ah_newC ?_; refine ok_newL C fun bq w C => ?_)
      | (with_reducible refine ah_ord ?_; refine ok_ordL C fun oq w C => ?_)
      | (with_reducible refine ah_draw ?_; refine ok_drawL C fun w C => ?_)
      | (with_reducible refine ah_ldA ?_; first | refine w_ldA1 C ?_ | refine w_ldA2 C ?_)
      | (with_reducible refine ah_ldA3 ?_; refine w_ldA3 C ?_)
      | (with_reducible refine ah_ldA4 ?_; refine w_ldA4 C ?_)
      | (with_reducible refine ah_ldN ?_; first | refine w_ldN1 C ?_ | refine w_ldN2 C ?_)
      | (with_reducible refine ah_ldN3 ?_; refine w_ldN3 C ?_)
      | (with_reducible refine ah_ldN4 ?_; refine w_ldN4 C ?_)
      | (with_reducible refine ah_chA ?_; first | refine w_chA1 C ?_ | refine w_chA2 C ?_)
      | (with_reducible refine ah_chA3 ?_; refine w_chA3 C ?_)
      | (with_reducible refine ah_chN ?_; first | refine w_chN1 C ?_ | refine w_chN2 C ?_)
      | (with_reducible refine ah_chN4 ?_; refine w_chN4 C ?_)
      | (with_reducible refine ah_wrA ?_; refine w_wrA1 C fun w C => ?_)
      | (with_reducible refine ah_wrN ?_; refine w_wrN1 C fun w C => ?_)
      | (with_reducible refine ah_wrN2 ?_; refine w_wrN2 C fun w C => ?_)
      | (with_reducible refine ah_wrN3 ?_; refine w_wrN3 C fun w C => ?_)
    refine ok_tB rfl ?_
    repeat first
      | with_reducible refine ok_assoc ?_
      | with_reducible refine ok_retB ?_
      | (with_reducible refine ah_newC ?_; refine ok_newL C fun bq w C => ?_)
      | (with_reducible refine ah_ord ?_; refine ok_ordL C fun oq w C => ?_)
      | (with_reducible refine ah_draw ?_; refine ok_drawL C fun w C => ?_)
      | (with_reducible refine ah_ldA ?_; first | refine w_ldA1 C ?_ | refine w_ldA2 C ?_)
      | (with_reducible refine ah_ldA3 ?_; refine w_ldA3 C ?_)
      | (with_reducible refine ah_ldA4 ?_; refine w_ldA4 C ?_)
      | (with_reducible refine ah_ldN ?_; first | refine w_ldN1 C ?_ | refine w_ldN2 C ?_)
      | (with_reducible refine ah_ldN3 ?_; refine w_ldN3 C ?_)
      | (with_reducible refine ah_ldN4 ?_; refine w_ldN4 C ?_)
      | (with_reducible refine ah_chA ?_; first | refine w_chA1 C ?_ | refine w_chA2 C ?_)
      | (with_reducible refine ah_chA3 ?_; refine w_chA3 C ?_)
      | (with_reducible refine ah_chN ?_; first | refine w_chN1 C ?_ | refine w_chN2 C ?_)
      | (with_reducible refine ah_chN4 ?_; refine w_chN4 C ?_)
      | (with_reducible refine ah_wrA ?_; refine w_wrA1 C fun w C => ?_)
      | (with_reducible refine ah_wrN ?_; refine w_wrN1 C fun w C => ?_)
      | (with_reducible refine ah_wrN2 ?_; refine w_wrN2 C fun w C => ?_)
      | (with_reducible refine ah_wrN3 ?_; refine w_wrN3 C fun w C => ?_)
    exact ok_true rfl (ok_ret.2 ⟨C.below, rfl⟩)
  by_cases hb : ck b = 0
  rotate_left
  · skip
    repeat first
      | with_reducible refine ok_assoc ?_
      | with_reducible refine ok_retB ?_
      | with_reducible refine ok_is C (works_is) fun w C => ?_
      | with_reducible refine ok_is C (add_is _ _) fun w C => ?_
      | with_reducible refine ok_is C (mul_is _ _) fun w C => ?_
      | with_reducible refine ok_is C (check_is _) fun w C => ?_
      | (with_reducible refine ah_newC ?_; refine ok_newL C fun bq w C => ?_)
      | (with_reducible refine ah_ord ?_; refine ok_ordL C fun oq w C => ?_)
      | (with_reducible refine ah_draw ?_; refine ok_drawL C fun w C => ?_)
      | (with_reducible refine ah_ldA ?_; first | refine w_ldA1 C ?_ | refine w_ldA2 C ?_)
      | (with_reducible refine ah_ldA3 ?_; refine w_ldA3 C ?_)
      | (with_reducible refine ah_ldA4 ?_; refine w_ldA4 C ?_)
      | (with_reducible refine ah_ldN ?_; first | refine w_ldN1 C ?_ | refine w_ldN2 C ?_)
      | (with_reducible refine ah_ldN3 ?_; refine w_ldN3 C ?_)
      | (with_reducible refine ah_ldN4 ?_; refine w_ldN4 C ?_)
      | (with_reducible refine ah_chA ?_; first | refine w_chA1 C ?_ | refine w_chA2 C ?_)
      | (with_reducible refine ah_chA3 ?_; refine w_chA3 C ?_)
      | (with_reducible refine ah_chN ?_; first | refine w_chN1 C ?_ | refine w_chN2 C ?_)
      | (with_reducible refine ah_chN4 ?_; refine w_chN4 C ?_)
      | (with_reducible refine ah_wrA ?_; refine w_wrA1 C fun w C => ?_)
      | (with_reducible refine ah_wrN ?_; refine w_wrN1 C fun w C => ?_)
      | (with_reducible refine ah_wrN2 ?_; refine w_wrN2 C fun w C => ?_)
      | (with_reducible refine ah_wrN3 ?_; refine w_wrN3 C fun w C => ?_)
    refine ok_fB (by simpa using ha) ?_
    repeat first
      | with_reducible refine ok_assoc ?_
      | with_reducible refine ok_retB ?_
      | with_reducible refine ok_is C (check_is _) fun w C => ?_
      | (with_reducible refine ah_newC ?_; refine ok_newL C fun bq w C => ?_)
      | (with_reducible refine ah_ord ?_; refine ok_ordL C fun oq w C => ?_)
      | (with_reducible refine ah_draw ?_; refine ok_drawL C fun w C => ?_)
      | (with_reducible refine ah_ldA ?_; first | refine w_ldA1 C ?_ | refine w_ldA2 C ?_)
      | (with_reducible refine ah_ldA3 ?_; refine w_ldA3 C ?_)
      | (with_reducible refine ah_ldA4 ?_; refine w_ldA4 C ?_)
      | (with_reducible refine ah_ldN ?_; first | refine w_ldN1 C ?_ | refine w_ldN2 C ?_)
      | (with_reducible refine ah_ldN3 ?_; refine w_ldN3 C ?_)
      | (with_reducible refine ah_ldN4 ?_; refine w_ldN4 C ?_)
      | (with_reducible refine ah_chA ?_; first | refine w_chA1 C ?_ | refine w_chA2 C ?_)
      | (with_reducible refine ah_chA3 ?_; refine w_chA3 C ?_)
      | (with_reducible refine ah_chN ?_; first | refine w_chN1 C ?_ | refine w_chN2 C ?_)
      | (with_reducible refine ah_chN4 ?_; refine w_chN4 C ?_)
      | (with_reducible refine ah_wrA ?_; refine w_wrA1 C fun w C => ?_)
      | (with_reducible refine ah_wrN ?_; refine w_wrN1 C fun w C => ?_)
      | (with_reducible refine ah_wrN2 ?_; refine w_wrN2 C fun w C => ?_)
      | (with_reducible refine ah_wrN3 ?_; refine w_wrN3 C fun w C => ?_)
    refine ok_tB (by simpa using hb) ?_
    repeat first
      | with_reducible refine ok_assoc ?_
      | with_reducible refine ok_retB ?_
      | (with_reducible refine ah_newC ?_; refine ok_newL C fun bq w C => ?_)
      | (with_reducible refine ah_ord ?_; refine ok_ordL C fun oq w C => ?_)
      | (with_reducible refine ah_draw ?_; refine ok_drawL C fun w C => ?_)
      | (with_reducible refine ah_ldA ?_; first | refine w_ldA1 C ?_ | refine w_ldA2 C ?_)
      | (with_reducible refine ah_ldA3 ?_; refine w_ldA3 C ?_)
      | (with_reducible refine ah_ldA4 ?_; refine w_ldA4 C ?_)
      | (with_reducible refine ah_ldN ?_; first | refine w_ldN1 C ?_ | refine w_ldN2 C ?_)
      | (with_reducible refine ah_ldN3 ?_; refine w_ldN3 C ?_)
      | (with_reducible refine ah_ldN4 ?_; refine w_ldN4 C ?_)
      | (with_reducible refine ah_chA ?_; first | refine w_chA1 C ?_ | refine w_chA2 C ?_)
      | (with_reducible refine ah_chA3 ?_; refine w_chA3 C ?_)
      | (with_reducible refine ah_chN ?_; first | refine w_chN1 C ?_ | refine w_chN2 C ?_)
      | (with_reducible refine ah_chN4 ?_; refine w_chN4 C ?_)
      | (with_reducible refine ah_wrA ?_; refine w_wrA1 C fun w C => ?_)
      | (with_reducible refine ah_wrN ?_; refine w_wrN1 C fun w C => ?_)
      | (with_reducible refine ah_wrN2 ?_; refine w_wrN2 C fun w C => ?_)
      | (with_reducible refine ah_wrN3 ?_; refine w_wrN3 C fun w C => ?_)
    exact ok_true rfl (ok_ret.2 ⟨C.below, rfl⟩)
  by_cases hc : ck c = 0
  rotate_left
  · skip
    repeat first
      | with_reducible refine ok_assoc ?_
      | with_reducible refine ok_retB ?_
      | with_reducible refine ok_is C (works_is) fun w C => ?_
      | with_reducible refine ok_is C (add_is _ _) fun w C => ?_
      | with_reducible refine ok_is C (mul_is _ _) fun w C => ?_
      | with_reducible refine ok_is C (check_is _) fun w C => ?_
      | (with_reducible refine ah_newC ?_; refine ok_newL C fun bq w C => ?_)
      | (with_reducible refine ah_ord ?_; refine ok_ordL C fun oq w C => ?_)
      | (with_reducible refine ah_draw ?_; refine ok_drawL C fun w C => ?_)
      | (with_reducible refine ah_ldA ?_; first | refine w_ldA1 C ?_ | refine w_ldA2 C ?_)
      | (with_reducible refine ah_ldA3 ?_; refine w_ldA3 C ?_)
      | (with_reducible refine ah_ldA4 ?_; refine w_ldA4 C ?_)
      | (with_reducible refine ah_ldN ?_; first | refine w_ldN1 C ?_ | refine w_ldN2 C ?_)
      | (with_reducible refine ah_ldN3 ?_; refine w_ldN3 C ?_)
      | (with_reducible refine ah_ldN4 ?_; refine w_ldN4 C ?_)
      | (with_reducible refine ah_chA ?_; first | refine w_chA1 C ?_ | refine w_chA2 C ?_)
      | (with_reducible refine ah_chA3 ?_; refine w_chA3 C ?_)
      | (with_reducible refine ah_chN ?_; first | refine w_chN1 C ?_ | refine w_chN2 C ?_)
      | (with_reducible refine ah_chN4 ?_; refine w_chN4 C ?_)
      | (with_reducible refine ah_wrA ?_; refine w_wrA1 C fun w C => ?_)
      | (with_reducible refine ah_wrN ?_; refine w_wrN1 C fun w C => ?_)
      | (with_reducible refine ah_wrN2 ?_; refine w_wrN2 C fun w C => ?_)
      | (with_reducible refine ah_wrN3 ?_; refine w_wrN3 C fun w C => ?_)
    refine ok_fB (by simpa using ha) ?_
    repeat first
      | with_reducible refine ok_assoc ?_
      | with_reducible refine ok_retB ?_
      | with_reducible refine ok_is C (check_is _) fun w C => ?_
      | (with_reducible refine ah_newC ?_; refine ok_newL C fun bq w C => ?_)
      | (with_reducible refine ah_ord ?_; refine ok_ordL C fun oq w C => ?_)
      | (with_reducible refine ah_draw ?_; refine ok_drawL C fun w C => ?_)
      | (with_reducible refine ah_ldA ?_; first | refine w_ldA1 C ?_ | refine w_ldA2 C ?_)
      | (with_reducible refine ah_ldA3 ?_; refine w_ldA3 C ?_)
      | (with_reducible refine ah_ldA4 ?_; refine w_ldA4 C ?_)
      | (with_reducible refine ah_ldN ?_; first | refine w_ldN1 C ?_ | refine w_ldN2 C ?_)
      | (with_reducible refine ah_ldN3 ?_; refine w_ldN3 C ?_)
      | (with_reducible refine ah_ldN4 ?_; refine w_ldN4 C ?_)
      | (with_reducible refine ah_chA ?_; first | refine w_chA1 C ?_ | refine w_chA2 C ?_)
      | (with_reducible refine ah_chA3 ?_; refine w_chA3 C ?_)
      | (with_reducible refine ah_chN ?_; first | refine w_chN1 C ?_ | refine w_chN2 C ?_)
      | (with_reducible refine ah_chN4 ?_; refine w_chN4 C ?_)
      | (with_reducible refine ah_wrA ?_; refine w_wrA1 C fun w C => ?_)
      | (with_reducible refine ah_wrN ?_; refine w_wrN1 C fun w C => ?_)
      | (with_reducible refine ah_wrN2 ?_; refine w_wrN2 C fun w C => ?_)
      | (with_reducible refine ah_wrN3 ?_; refine w_wrN3 C fun w C => ?_)
    refine ok_fB (by simpa using hb) ?_
    repeat first
      | with_reducible refine ok_assoc ?_
      | with_reducible refine ok_retB ?_
      | with_reducible refine ok_is C (check_is _) fun w C => ?_
      | (with_reducible refine ah_newC ?_; refine ok_newL C fun bq w C => ?_)
      | (with_reducible refine ah_ord ?_; refine ok_ordL C fun oq w C => ?_)
      | (with_reducible refine ah_draw ?_; refine ok_drawL C fun w C => ?_)
      | (with_reducible refine ah_ldA ?_; first | refine w_ldA1 C ?_ | refine w_ldA2 C ?_)
      | (with_reducible refine ah_ldA3 ?_; refine w_ldA3 C ?_)
      | (with_reducible refine ah_ldA4 ?_; refine w_ldA4 C ?_)
      | (with_reducible refine ah_ldN ?_; first | refine w_ldN1 C ?_ | refine w_ldN2 C ?_)
      | (with_reducible refine ah_ldN3 ?_; refine w_ldN3 C ?_)
      | (with_reducible refine ah_ldN4 ?_; refine w_ldN4 C ?_)
      | (with_reducible refine ah_chA ?_; first | refine w_chA1 C ?_ | refine w_chA2 C ?_)
      | (with_reducible refine ah_chA3 ?_; refine w_chA3 C ?_)
      | (with_reducible refine ah_chN ?_; first | refine w_chN1 C ?_ | refine w_chN2 C ?_)
      | (with_reducible refine ah_chN4 ?_; refine w_chN4 C ?_)
      | (with_reducible refine ah_wrA ?_; refine w_wrA1 C fun w C => ?_)
      | (with_reducible refine ah_wrN ?_; refine w_wrN1 C fun w C => ?_)
      | (with_reducible refine ah_wrN2 ?_; refine w_wrN2 C fun w C => ?_)
      | (with_reducible refine ah_wrN3 ?_; refine w_wrN3 C fun w C => ?_)
    exact ok_true (by simpa using hc) (ok_ret.2 ⟨C.below, rfl⟩)
  obtain ⟨x, rfl, hx⟩ := ck_ex ha
  obtain ⟨y, rfl, hy⟩ := ck_ex hb
  obtain ⟨z, rfl, hz⟩ := ck_ex hc
  have h2 : Is (f35_largeint_Add (lg y) (lg x)) (addR (lg x) (lg y)) := by
    have := add_is (lg y) (lg x)
    rwa [addR_lg hy hx, Int.add_comm, ← addR_lg hx hy] at this
  have h3 : Is (f38_largeint_Mul (lg y) (lg x)) (mulR (lg x) (lg y)) := by
    have := mul_is (lg y) (lg x)
    rwa [mulR_lg hy hx, Int.mul_comm, ← mulR_lg hx hy] at this
  repeat first
    | with_reducible refine ok_assoc ?_
    | with_reducible refine ok_retB ?_
    | with_reducible refine ok_is C (works_is) fun w C => ?_
    | with_reducible refine ok_is C (h2) fun w C => ?_
    | with_reducible refine ok_is C (h3) fun w C => ?_
    | with_reducible refine ok_is C (add_is _ _) fun w C => ?_
    | with_reducible refine ok_is C (mul_is _ _) fun w C => ?_
    | with_reducible refine ok_is C (check_is _) fun w C => ?_
    | (with_reducible refine ah_newC ?_; refine ok_newL C fun bq w C => ?_)
    | (with_reducible refine ah_ord ?_; refine ok_ordL C fun oq w C => ?_)
    | (with_reducible refine ah_draw ?_; refine ok_drawL C fun w C => ?_)
    | (with_reducible refine ah_ldA ?_; first | refine w_ldA1 C ?_ | refine w_ldA2 C ?_)
    | (with_reducible refine ah_ldA3 ?_; refine w_ldA3 C ?_)
    | (with_reducible refine ah_ldA4 ?_; refine w_ldA4 C ?_)
    | (with_reducible refine ah_ldN ?_; first | refine w_ldN1 C ?_ | refine w_ldN2 C ?_)
    | (with_reducible refine ah_ldN3 ?_; refine w_ldN3 C ?_)
    | (with_reducible refine ah_ldN4 ?_; refine w_ldN4 C ?_)
    | (with_reducible refine ah_chA ?_; first | refine w_chA1 C ?_ | refine w_chA2 C ?_)
    | (with_reducible refine ah_chA3 ?_; refine w_chA3 C ?_)
    | (with_reducible refine ah_chN ?_; first | refine w_chN1 C ?_ | refine w_chN2 C ?_)
    | (with_reducible refine ah_chN4 ?_; refine w_chN4 C ?_)
    | (with_reducible refine ah_wrA ?_; refine w_wrA1 C fun w C => ?_)
    | (with_reducible refine ah_wrN ?_; refine w_wrN1 C fun w C => ?_)
    | (with_reducible refine ah_wrN2 ?_; refine w_wrN2 C fun w C => ?_)
    | (with_reducible refine ah_wrN3 ?_; refine w_wrN3 C fun w C => ?_)
  refine ok_fB (by simpa using ha) ?_
  repeat first
    | with_reducible refine ok_assoc ?_
    | with_reducible refine ok_retB ?_
    | with_reducible refine ok_is C (check_is _) fun w C => ?_
    | (with_reducible refine ah_newC ?_; refine ok_newL C fun bq w C => ?_)
    | (with_reducible refine ah_ord ?_; refine ok_ordL C fun oq w C => ?_)
    | (with_reducible refine ah_draw ?_; refine ok_drawL C fun w C => ?_)
    | (with_reducible refine ah_ldA ?_; first | refine w_ldA1 C ?_ | refine w_ldA2 C ?_)
    | (with_reducible refine ah_ldA3 ?_; refine w_ldA3 C ?_)
    | (with_reducible refine ah_ldA4 ?_; refine w_ldA4 C ?_)
    | (with_reducible refine ah_ldN ?_; first | refine w_ldN1 C ?_ | refine w_ldN2 C ?_)
    | (with_reducible refine ah_ldN3 ?_; refine w_ldN3 C ?_)
    | (with_reducible refine ah_ldN4 ?_; refine w_ldN4 C ?_)
    | (with_reducible refine ah_chA ?_; first | refine w_chA1 C ?_ | refine w_chA2 C ?_)
    | (with_reducible refine ah_chA3 ?_; refine w_chA3 C ?_)
    | (with_reducible refine ah_chN ?_; first | refine w_chN1 C ?_ | refine w_chN2 C ?_)
    | (with_reducible refine ah_chN4 ?_; refine w_chN4 C ?_)
    | (with_reducible refine ah_wrA ?_; refine w_wrA1 C fun w C => ?_)
    | (with_reducible refine ah_wrN ?_; refine w_wrN1 C fun w C => ?_)
    | (with_reducible refine ah_wrN2 ?_; refine w_wrN2 C fun w C => ?_)
    | (with_reducible refine ah_wrN3 ?_; refine w_wrN3 C fun w C => ?_)
  refine ok_fB (by simpa using hb) ?_
  repeat first
    | with_reducible refine ok_assoc ?_
    | with_reducible refine ok_retB ?_
    | with_reducible refine ok_is C (check_is _) fun w C => ?_
    | (with_reducible refine ah_newC ?_; refine ok_newL C fun bq w C => ?_)
    | (with_reducible refine ah_ord ?_; refine ok_ordL C fun oq w C => ?_)
    | (with_reducible refine ah_draw ?_; refine ok_drawL C fun w C => ?_)
    | (with_reducible refine ah_ldA ?_; first | refine w_ldA1 C ?_ | refine w_ldA2 C ?_)
    | (with_reducible refine ah_ldA3 ?_; refine w_ldA3 C ?_)
    | (with_reducible refine ah_ldA4 ?_; refine w_ldA4 C ?_)
    | (with_reducible refine ah_ldN ?_; first | refine w_ldN1 C ?_ | refine w_ldN2 C ?_)
    | (with_reducible refine ah_ldN3 ?_; refine w_ldN3 C ?_)
    | (with_reducible refine ah_ldN4 ?_; refine w_ldN4 C ?_)
    | (with_reducible refine ah_chA ?_; first | refine w_chA1 C ?_ | refine w_chA2 C ?_)
    | (with_reducible refine ah_chA3 ?_; refine w_chA3 C ?_)
    | (with_reducible refine ah_chN ?_; first | refine w_chN1 C ?_ | refine w_chN2 C ?_)
    | (with_reducible refine ah_chN4 ?_; refine w_chN4 C ?_)
    | (with_reducible refine ah_wrA ?_; refine w_wrA1 C fun w C => ?_)
    | (with_reducible refine ah_wrN ?_; refine w_wrN1 C fun w C => ?_)
    | (with_reducible refine ah_wrN2 ?_; refine w_wrN2 C fun w C => ?_)
    | (with_reducible refine ah_wrN3 ?_; refine w_wrN3 C fun w C => ?_)
  refine ok_false (by simpa using hc) ?_
  repeat first
    | with_reducible refine ok_assoc ?_
    | with_reducible refine ok_retB ?_
    | (with_reducible refine ah_newC ?_; refine ok_newL C fun bq w C => ?_)
    | (with_reducible refine ah_ord ?_; refine ok_ordL C fun oq w C => ?_)
    | (with_reducible refine ah_draw ?_; refine ok_drawL C fun w C => ?_)
    | (with_reducible refine ah_ldA ?_; first | refine w_ldA1 C ?_ | refine w_ldA2 C ?_)
    | (with_reducible refine ah_ldA3 ?_; refine w_ldA3 C ?_)
    | (with_reducible refine ah_ldA4 ?_; refine w_ldA4 C ?_)
    | (with_reducible refine ah_ldN ?_; first | refine w_ldN1 C ?_ | refine w_ldN2 C ?_)
    | (with_reducible refine ah_ldN3 ?_; refine w_ldN3 C ?_)
    | (with_reducible refine ah_ldN4 ?_; refine w_ldN4 C ?_)
    | (with_reducible refine ah_chA ?_; first | refine w_chA1 C ?_ | refine w_chA2 C ?_)
    | (with_reducible refine ah_chA3 ?_; refine w_chA3 C ?_)
    | (with_reducible refine ah_chN ?_; first | refine w_chN1 C ?_ | refine w_chN2 C ?_)
    | (with_reducible refine ah_chN4 ?_; refine w_chN4 C ?_)
    | (with_reducible refine ah_wrA ?_; refine w_wrA1 C fun w C => ?_)
    | (with_reducible refine ah_wrN ?_; refine w_wrN1 C fun w C => ?_)
    | (with_reducible refine ah_wrN2 ?_; refine w_wrN2 C fun w C => ?_)
    | (with_reducible refine ah_wrN3 ?_; refine w_wrN3 C fun w C => ?_)
  refine ok_fB (by simp [strEq_eq]) ?_
  repeat first
    | with_reducible refine ok_assoc ?_
    | with_reducible refine ok_retB ?_
    | (with_reducible refine ah_newC ?_; refine ok_newL C fun bq w C => ?_)
    | (with_reducible refine ah_ord ?_; refine ok_ordL C fun oq w C => ?_)
    | (with_reducible refine ah_draw ?_; refine ok_drawL C fun w C => ?_)
    | (with_reducible refine ah_ldA ?_; first | refine w_ldA1 C ?_ | refine w_ldA2 C ?_)
    | (with_reducible refine ah_ldA3 ?_; refine w_ldA3 C ?_)
    | (with_reducible refine ah_ldA4 ?_; refine w_ldA4 C ?_)
    | (with_reducible refine ah_ldN ?_; first | refine w_ldN1 C ?_ | refine w_ldN2 C ?_)
    | (with_reducible refine ah_ldN3 ?_; refine w_ldN3 C ?_)
    | (with_reducible refine ah_ldN4 ?_; refine w_ldN4 C ?_)
    | (with_reducible refine ah_chA ?_; first | refine w_chA1 C ?_ | refine w_chA2 C ?_)
    | (with_reducible refine ah_chA3 ?_; refine w_chA3 C ?_)
    | (with_reducible refine ah_chN ?_; first | refine w_chN1 C ?_ | refine w_chN2 C ?_)
    | (with_reducible refine ah_chN4 ?_; refine w_chN4 C ?_)
    | (with_reducible refine ah_wrA ?_; refine w_wrA1 C fun w C => ?_)
    | (with_reducible refine ah_wrN ?_; refine w_wrN1 C fun w C => ?_)
    | (with_reducible refine ah_wrN2 ?_; refine w_wrN2 C fun w C => ?_)
    | (with_reducible refine ah_wrN3 ?_; refine w_wrN3 C fun w C => ?_)
  refine ok_false (by simp [strEq_eq]) ?_
  repeat first
    | with_reducible refine ok_assoc ?_
    | with_reducible refine ok_retB ?_
    | with_reducible refine ok_is C (add_is _ _) fun w C => ?_
    | with_reducible refine ok_is C (mul_is _ _) fun w C => ?_
    | (with_reducible refine ah_newC ?_; refine ok_newL C fun bq w C => ?_)
    | (with_reducible refine ah_ord ?_; refine ok_ordL C fun oq w C => ?_)
    | (with_reducible refine ah_draw ?_; refine ok_drawL C fun w C => ?_)
    | (with_reducible refine ah_ldA ?_; first | refine w_ldA1 C ?_ | refine w_ldA2 C ?_)
    | (with_reducible refine ah_ldA3 ?_; refine w_ldA3 C ?_)
    | (with_reducible refine ah_ldA4 ?_; refine w_ldA4 C ?_)
    | (with_reducible refine ah_ldN ?_; first | refine w_ldN1 C ?_ | refine w_ldN2 C ?_)
    | (with_reducible refine ah_ldN3 ?_; refine w_ldN3 C ?_)
    | (with_reducible refine ah_ldN4 ?_; refine w_ldN4 C ?_)
    | (with_reducible refine ah_chA ?_; first | refine w_chA1 C ?_ | refine w_chA2 C ?_)
    | (with_reducible refine ah_chA3 ?_; refine w_chA3 C ?_)
    | (with_reducible refine ah_chN ?_; first | refine w_chN1 C ?_ | refine w_chN2 C ?_)
    | (with_reducible refine ah_chN4 ?_; refine w_chN4 C ?_)
    | (with_reducible refine ah_wrA ?_; refine w_wrA1 C fun w C => ?_)
    | (with_reducible refine ah_wrN ?_; refine w_wrN1 C fun w C => ?_)
    | (with_reducible refine ah_wrN2 ?_; refine w_wrN2 C fun w C => ?_)
    | (with_reducible refine ah_wrN3 ?_; refine w_wrN3 C fun w C => ?_)
  by_cases hall : (addR (lg x) (lg y)).2 = 0 ∧ (mulR (addR (lg x) (lg y)).1 (lg z)).2 = 0 ∧ (mulR (lg x) (lg z)).2 = 0 ∧ (mulR (lg y) (lg z)).2 = 0 ∧ (addR (mulR (lg x) (lg z)).1 (mulR (lg y) (lg z)).1).2 = 0
  rotate_left
  · refine ok_true ?_ (ok_ret.2 ⟨C.below, rfl⟩)
    rw [Bool.eq_iff_iff]
    simp only [Bool.cond_true_left, Bool.or_eq_true, bne_iff_ne, ne_eq, iff_true]
    by_cases e1 : (addR (lg x) (lg y)).2 = 0 <;> by_cases e2 : (mulR (addR (lg x) (lg y)).1 (lg z)).2 = 0 <;> by_cases e3 : (mulR (lg x) (lg z)).2 = 0 <;> by_cases e4 : (mulR (lg y) (lg z)).2 = 0 <;> by_cases e5 : (addR (mulR (lg x) (lg z)).1 (mulR (lg y) (lg z)).1).2 = 0 <;> simp_all
  obtain ⟨e1, e2, e3, e4, e5⟩ := hall
  refine ok_false (by rw [e1, e2, e3, e4, e5]; rfl) ?_
  repeat first
    | with_reducible refine ok_assoc ?_
    | with_reducible refine ok_retB ?_
    | with_reducible refine ok_is C (cmp_is _ _) fun w C => ?_
    | with_reducible refine ok_is C (sub_is _ _) fun w C => ?_
    | (with_reducible refine ah_newC ?_; refine ok_newL C fun bq w C => ?_)
    | (with_reducible refine ah_ord ?_; refine ok_ordL C fun oq w C => ?_)
    | (with_reducible refine ah_draw ?_; refine ok_drawL C fun w C => ?_)
    | (with_reducible refine ah_ldA ?_; first | refine w_ldA1 C ?_ | refine w_ldA2 C ?_)
    | (with_reducible refine ah_ldA3 ?_; refine w_ldA3 C ?_)
    | (with_reducible refine ah_ldA4 ?_; refine w_ldA4 C ?_)
    | (with_reducible refine ah_ldN ?_; first | refine w_ldN1 C ?_ | refine w_ldN2 C ?_)
    | (with_reducible refine ah_ldN3 ?_; refine w_ldN3 C ?_)
    | (with_reducible refine ah_ldN4 ?_; refine w_ldN4 C ?_)
    | (with_reducible refine ah_chA ?_; first | refine w_chA1 C ?_ | refine w_chA2 C ?_)
    | (with_reducible refine ah_chA3 ?_; refine w_chA3 C ?_)
    | (with_reducible refine ah_chN ?_; first | refine w_chN1 C ?_ | refine w_chN2 C ?_)
    | (with_reducible refine ah_chN4 ?_; refine w_chN4 C ?_)
    | (with_reducible refine ah_wrA ?_; refine w_wrA1 C fun w C => ?_)
    | (with_reducible refine ah_wrN ?_; refine w_wrN1 C fun w C => ?_)
    | (with_reducible refine ah_wrN2 ?_; refine w_wrN2 C fun w C => ?_)
    | (with_reducible refine ah_wrN3 ?_; refine w_wrN3 C fun w C => ?_)
  refine ok_tB rfl ?_
  repeat first
    | with_reducible refine ok_assoc ?_
    | with_reducible refine ok_retB ?_
    | (with_reducible refine ah_newC ?_; refine ok_newL C fun bq w C => ?_)
    | (with_reducible refine ah_ord ?_; refine ok_ordL C fun oq w C => ?_)
    | (with_reducible refine ah_draw ?_; refine ok_drawL C fun w C => ?_)
    | (with_reducible refine ah_ldA ?_; first | refine w_ldA1 C ?_ | refine w_ldA2 C ?_)
    | (with_reducible refine ah_ldA3 ?_; refine w_ldA3 C ?_)
    | (with_reducible refine ah_ldA4 ?_; refine w_ldA4 C ?_)
    | (with_reducible refine ah_ldN ?_; first | refine w_ldN1 C ?_ | refine w_ldN2 C ?_)
    | (with_reducible refine ah_ldN3 ?_; refine w_ldN3 C ?_)
    | (with_reducible refine ah_ldN4 ?_; refine w_ldN4 C ?_)
    | (with_reducible refine ah_chA ?_; first | refine w_chA1 C ?_ | refine w_chA2 C ?_)
    | (with_reducible refine ah_chA3 ?_; refine w_chA3 C ?_)
    | (with_reducible refine ah_chN ?_; first | refine w_chN1 C ?_ | refine w_chN2 C ?_)
    | (with_reducible refine ah_chN4 ?_; refine w_chN4 C ?_)
    | (with_reducible refine ah_wrA ?_; refine w_wrA1 C fun w C => ?_)
    | (with_reducible refine ah_wrN ?_; refine w_wrN1 C fun w C => ?_)
    | (with_reducible refine ah_wrN2 ?_; refine w_wrN2 C fun w C => ?_)
    | (with_reducible refine ah_wrN3 ?_; refine w_wrN3 C fun w C => ?_)
  rw [addR_lg hx hy] at e1 e2
  obtain ⟨f1, g1⟩ := toldZ_ok e1
  rw [f1, mulR_lg g1 hz] at e2
  obtain ⟨f2, g2⟩ := toldZ_ok e2
  rw [mulR_lg hx hz] at e3 e5
  rw [mulR_lg hy hz] at e4 e5
  obtain ⟨f3, g3⟩ := toldZ_ok e3
  obtain ⟨f4, g4⟩ := toldZ_ok e4
  rw [f3, f4, addR_lg g3 g4] at e5
  obtain ⟨f5, g5⟩ := toldZ_ok e5
  refine ok_ret.2 ⟨C.below, ?_⟩
  rw [addR_lg hx hy, f1, mulR_lg g1 hz, f2, mulR_lg hx hz, mulR_lg hy hz, f3, f4, addR_lg g3 g4, f5, cmpR_lg hx hy, cmpR_lg hy hx, subR_lg hx hy, Int.add_mul]
  have hr := cmpZ_rng y x
  rw [wrapI_in (by show _ ≤ 0 - cmpZ y x ∧ 0 - cmpZ y x ≤ _; omega)]
  by_cases hs : tooBig (x - y).natAbs
  · have : toldZ (x - y) = (zr, 92) := by unfold toldZ; rw [if_pos hs]
    rw [this]
    simp [strEq_eq, cmpZ_neg x y]
  · rw [toldZ_fine hs, zr_ld, cmpR_lg hs tb_zero, cmpZ_sub]
    simp [strEq_eq, cmpZ_neg x y]
end Go.Proofs.Ytoekfjgikicclaa
