/-
  Part of the proof: L24. It states what the functions do; no further condition.
-/
import Derived.Test.YtoekfjgikicclaaL23
set_option linter.unusedVariables false
set_option linter.unusedSimpArgs false
namespace Go.Proofs.Ytoekfjgikicclaa
set_option linter.unusedVariables false
open Go.Sh Go.RowKit
set_option maxRecDepth 100000
/-! ### Exported: Div, Gcd, Bits -/
theorem tb_le {n m : Nat} (h : ¬ tooBig n) (hm : m ≤ n) : ¬ tooBig m := by
  rw [tooBig_iff] at h ⊢; omega
theorem tb_small {n : Nat} (h : n < 18446744073709551616) : ¬ tooBig n := by
  have := dgs_length h256 (n := n) (k := 8) h
  unfold tooBig db; omega
theorem tb_size {z : Int} (h : ¬ tooBig z.natAbs) : (lg z).2.size ≤ 1000000 := by
  rw [lg_size]; unfold tooBig at h; omega
theorem tb_words {n : Nat} (h : ¬ tooBig n) : (dw n).length ≤ 1024 := by
  have h2 : (dgs BW n).length = _ := words_of (n := n) (s := (db n).length) rfl
  unfold tooBig at h
  unfold dw
  omega
theorem ofz_spec {z : Int} (h : ¬ tooBig z.natAbs) (w : World) : Ok (f49_largeint_of (lg z)) w fun r w' => Cx No w w' [.own r.1 (nums .u32 (dw z.natAbs))] ∧ r.2 = (lg z).1 := by
  have := of_spec (a := lg z) (by rw [nv_lg]; rfl) (tb_size h) w
  rw [nv_lg] at this
  exact this
theorem sv_lg (z : Int) : sv (lg z).1 z.natAbs = z := by
  have := iv_lg z
  unfold iv at this
  rwa [nv_lg] at this
def keeps (r b : Int) : Bool := decide (r = 0) || (decide (r < 0) == decide (b < 0))
def divZ (a b : Int) : Int × Int := if keeps (Int.tmod a b) b then (Int.tdiv a b, Int.tmod a b) else (Int.tdiv a b - 1, Int.tmod a b + b)
def divR (a b : Lg) : Lg × (Lg × Int) := if ck2 a b = 0 then (if iv b = 0 then (zr, zr, 90) else (lg (divZ (iv a) (iv b)).1, lg (divZ (iv a) (iv b)).2, 0)) else (zr, zr, ck2 a b)
theorem tdiv_abs (a b : Int) : (Int.tdiv a b).natAbs = a.natAbs / b.natAbs := Int.natAbs_tdiv a b
theorem tmod_abs (a b : Int) : (Int.tmod a b).natAbs = a.natAbs % b.natAbs := Int.natAbs_tmod a b
theorem div_adj {n m : Nat} (hm : m ≠ 0) (h : n % m ≠ 0) : n / m + 1 ≤ n := by
  have h1 : m ≠ 1 := by rintro rfl; exact h (Nat.mod_one n)
  have h2 : n / m ≤ n / 2 := Nat.div_le_div_left (by omega) (by decide)
  have h3 : n ≠ 0 := by rintro rfl; simp at h
  omega
theorem div_is (a b : Lg) : Is (f14_largeint_Div a b) (divR a b) := by
  intro w
  unfold f14_largeint_Div divR
  have C := Cx.nil No w
  repeat first
    | with_reducible refine ok_assoc ?_
    | with_reducible refine ok_retB ?_
    | (with_reducible refine ah_newC ?_; refine ok_newL C fun bq w C => ?_)
    | (with_reducible refine ah_ord ?_; refine ok_ordL C fun oq w C => ?_)
    | (with_reducible refine ah_draw ?_; refine ok_drawL C fun w C => ?_)
    | (with_reducible refine ah_ldA ?_; first | refine w_ldA1 C ?_ | refine w_ldA2 C ?_)
    | (with_reducible refine ah_ldA3 ?_; refine w_ldA3 C ?_)
    | (with_reducible refine ah_ldA4 ?_; refine w_ldA4 C ?_)
    | (with_reducible refine ah_ldN ?_; first | refine w_ldN1 C ?_ | refine w_ldN2 C ?_)
    | (with_reducible refine ah_ldN3 ?_; refine w_ldN3 C ?_)
    | (with_reducible refine ah_ldN4 ?_; refine w_ldN4 C ?_)
    | (with_reducible refine ah_chA ?_; first | refine w_chA1 C ?_ | refine w_chA2 C ?_)
    | (with_reducible refine ah_chA3 ?_; refine w_chA3 C ?_)
    | (with_reducible refine ah_chN ?_; first | refine w_chN1 C ?_ | refine w_chN2 C ?_)
    | (with_reducible refine ah_chN4 ?_; refine w_chN4 C ?_)
    | (with_reducible refine ah_wrA ?_; refine w_wrA1 C fun w C => ?_)
    | (with_reducible refine ah_wrN ?_; refine w_wrN1 C fun w C => ?_)
    | (with_reducible refine ah_wrN2 ?_; refine w_wrN2 C fun w C => ?_)
    | (with_reducible refine ah_wrN3 ?_; refine w_wrN3 C fun w C => ?_)
  have hQ := quo_is a b
  unfold quoR at hQ
  by_cases h : ck2 a b = 0
  rotate_left
  · rw [if_neg h]
    rw [if_neg h] at hQ
    refine ok_is C hQ fun w C => ?_
    repeat first
      | with_reducible refine ok_assoc ?_
      | with_reducible refine ok_retB ?_
      | (with_reducible refine ah_newC ?_; refine ok_newL C fun bq w C => ?_)
      | (with_reducible refine ah_ord ?_; refine ok_ordL C fun oq w C => ?_)
      | (with_reducible refine ah_draw ?_; refine ok_drawL C fun w C => ?_)
      | (with_reducible refine ah_ldA ?_; first | refine w_ldA1 C ?_ | refine w_ldA2 C ?_)
      | (with_reducible refine ah_ldA3 ?_; refine w_ldA3 C ?_)
      | (with_reducible refine ah_ldA4 ?_; refine w_ldA4 C ?_)
      | (with_reducible refine ah_ldN ?_; first | refine w_ldN1 C ?_ | refine w_ldN2 C ?_)
      | (with_reducible refine ah_ldN3 ?_; refine w_ldN3 C ?_)
      | (with_reducible refine ah_ldN4 ?_; refine w_ldN4 C ?_)
      | (with_reducible refine ah_chA ?_; first | refine w_chA1 C ?_ | refine w_chA2 C ?_)
      | (with_reducible refine ah_chA3 ?_; refine w_chA3 C ?_)
      | (with_reducible refine ah_chN ?_; first | refine w_chN1 C ?_ | refine w_chN2 C ?_)
      | (with_reducible refine ah_chN4 ?_; refine w_chN4 C ?_)
      | (with_reducible refine ah_wrA ?_; refine w_wrA1 C fun w C => ?_)
      | (with_reducible refine ah_wrN ?_; refine w_wrN1 C fun w C => ?_)
      | (with_reducible refine ah_wrN2 ?_; refine w_wrN2 C fun w C => ?_)
      | (with_reducible refine ah_wrN3 ?_; refine w_wrN3 C fun w C => ?_)
    refine ok_tB (by simpa using h) ?_
    repeat first
      | with_reducible refine ok_assoc ?_
      | with_reducible refine ok_retB ?_
      | (with_reducible refine ah_newC ?_; refine ok_newL C fun bq w C => ?_)
      | (with_reducible refine ah_ord ?_; refine ok_ordL C fun oq w C => ?_)
      | (with_reducible refine ah_draw ?_; refine ok_drawL C fun w C => ?_)
      | (with_reducible refine ah_ldA ?_; first | refine w_ldA1 C ?_ | refine w_ldA2 C ?_)
      | (with_reducible refine ah_ldA3 ?_; refine w_ldA3 C ?_)
      | (with_reducible refine ah_ldA4 ?_; refine w_ldA4 C ?_)
      | (with_reducible refine ah_ldN ?_; first | refine w_ldN1 C ?_ | refine w_ldN2 C ?_)
      | (with_reducible refine ah_ldN3 ?_; refine w_ldN3 C ?_)
      | (with_reducible refine ah_ldN4 ?_; refine w_ldN4 C ?_)
      | (with_reducible refine ah_chA ?_; first | refine w_chA1 C ?_ | refine w_chA2 C ?_)
      | (with_reducible refine ah_chA3 ?_; refine w_chA3 C ?_)
      | (with_reducible refine ah_chN ?_; first | refine w_chN1 C ?_ | refine w_chN2 C ?_)
      | (with_reducible refine ah_chN4 ?_; refine w_chN4 C ?_)
      | (with_reducible refine ah_wrA ?_; refine w_wrA1 C fun w C => ?_)
      | (with_reducible refine ah_wrN ?_; refine w_wrN1 C fun w C => ?_)
      | (with_reducible refine ah_wrN2 ?_; refine w_wrN2 C fun w C => ?_)
      | (with_reducible refine ah_wrN3 ?_; refine w_wrN3 C fun w C => ?_)
    refine ok_tB rfl ?_
    repeat first
      | with_reducible refine ok_assoc ?_
      | with_reducible refine ok_retB ?_
      | (with_reducible refine ah_newC ?_; refine ok_newL C fun bq w C => ?_)
      | (with_reducible refine ah_ord ?_; refine ok_ordL C fun oq w C => ?_)
      | (with_reducible refine ah_draw ?_; refine ok_drawL C fun w C => ?_)
      | (with_reducible refine ah_ldA ?_; first | refine w_ldA1 C ?_ | refine w_ldA2 C ?_)
      | (with_reducible refine ah_ldA3 ?_; refine w_ldA3 C ?_)
      | (with_reducible refine ah_ldA4 ?_; refine w_ldA4 C ?_)
      | (with_reducible refine ah_ldN ?_; first | refine w_ldN1 C ?_ | refine w_ldN2 C ?_)
      | (with_reducible refine ah_ldN3 ?_; refine w_ldN3 C ?_)
      | (with_reducible refine ah_ldN4 ?_; refine w_ldN4 C ?_)
      | (with_reducible refine ah_chA ?_; first | refine w_chA1 C ?_ | refine w_chA2 C ?_)
      | (with_reducible refine ah_chA3 ?_; refine w_chA3 C ?_)
      | (with_reducible refine ah_chN ?_; first | refine w_chN1 C ?_ | refine w_chN2 C ?_)
      | (with_reducible refine ah_chN4 ?_; refine w_chN4 C ?_)
      | (with_reducible refine ah_wrA ?_; refine w_wrA1 C fun w C => ?_)
      | (with_reducible refine ah_wrN ?_; refine w_wrN1 C fun w C => ?_)
      | (with_reducible refine ah_wrN2 ?_; refine w_wrN2 C fun w C => ?_)
      | (with_reducible refine ah_wrN3 ?_; refine w_wrN3 C fun w C => ?_)
    refine ok_true rfl ?_
    repeat first
      | with_reducible refine ok_assoc ?_
      | with_reducible refine ok_retB ?_
      | (with_reducible refine ah_newC ?_; refine ok_newL C fun bq w C => ?_)
      | (with_reducible refine ah_ord ?_; refine ok_ordL C fun oq w C => ?_)
      | (with_reducible refine ah_draw ?_; refine ok_drawL C fun w C => ?_)
      | (with_reducible refine ah_ldA ?_; first | refine w_ldA1 C ?_ | refine w_ldA2 C ?_)
      | (with_reducible refine ah_ldA3 ?_; refine w_ldA3 C ?_)
      | (with_reducible refine ah_ldA4 ?_; refine w_ldA4 C ?_)
      | (with_reducible refine ah_ldN ?_; first | refine w_ldN1 C ?_ | refine w_ldN2 C ?_)
      | (with_reducible refine ah_ldN3 ?_; refine w_ldN3 C ?_)
      | (with_reducible refine ah_ldN4 ?_; refine w_ldN4 C ?_)
      | (with_reducible refine ah_chA ?_; first | refine w_chA1 C ?_ | refine w_chA2 C ?_)
      | (with_reducible refine ah_chA3 ?_; refine w_chA3 C ?_)
      | (with_reducible refine ah_chN ?_; first | refine w_chN1 C ?_ | refine w_chN2 C ?_)
      | (with_reducible refine ah_chN4 ?_; refine w_chN4 C ?_)
      | (with_reducible refine ah_wrA ?_; refine w_wrA1 C fun w C => ?_)
      | (with_reducible refine ah_wrN ?_; refine w_wrN1 C fun w C => ?_)
      | (with_reducible refine ah_wrN2 ?_; refine w_wrN2 C fun w C => ?_)
      | (with_reducible refine ah_wrN3 ?_; refine w_wrN3 C fun w C => ?_)
    exact ok_ret.2 ⟨C.below, rfl⟩
  rw [if_pos h]
  rw [if_pos h] at hQ
  by_cases hb : iv b = 0
  · rw [if_pos hb]
    rw [if_pos hb] at hQ
    refine ok_is C hQ fun w C => ?_
    repeat first
      | with_reducible refine ok_assoc ?_
      | with_reducible refine ok_retB ?_
      | (with_reducible refine ah_newC ?_; refine ok_newL C fun bq w C => ?_)
      | (with_reducible refine ah_ord ?_; refine ok_ordL C fun oq w C => ?_)
      | (with_reducible refine ah_draw ?_; refine ok_drawL C fun w C => ?_)
      | (with_reducible refine ah_ldA ?_; first | refine w_ldA1 C ?_ | refine w_ldA2 C ?_)
      | (with_reducible refine ah_ldA3 ?_; refine w_ldA3 C ?_)
      | (with_reducible refine ah_ldA4 ?_; refine w_ldA4 C ?_)
      | (with_reducible refine ah_ldN ?_; first | refine w_ldN1 C ?_ | refine w_ldN2 C ?_)
      | (with_reducible refine ah_ldN3 ?_; refine w_ldN3 C ?_)
      | (with_reducible refine ah_ldN4 ?_; refine w_ldN4 C ?_)
      | (with_reducible refine ah_chA ?_; first | refine w_chA1 C ?_ | refine w_chA2 C ?_)
      | (with_reducible refine ah_chA3 ?_; refine w_chA3 C ?_)
      | (with_reducible refine ah_chN ?_; first | refine w_chN1 C ?_ | refine w_chN2 C ?_)
      | (with_reducible refine ah_chN4 ?_; refine w_chN4 C ?_)
      | (with_reducible refine ah_wrA ?_; refine w_wrA1 C fun w C => ?_)
      | (with_reducible refine ah_wrN ?_; refine w_wrN1 C fun w C => ?_)
      | (with_reducible refine ah_wrN2 ?_; refine w_wrN2 C fun w C => ?_)
      | (with_reducible refine ah_wrN3 ?_; refine w_wrN3 C fun w C => ?_)
    refine ok_tB rfl ?_
    repeat first
      | with_reducible refine ok_assoc ?_
      | with_reducible refine ok_retB ?_
      | (with_reducible refine ah_newC ?_; refine ok_newL C fun bq w C => ?_)
      | (with_reducible refine ah_ord ?_; refine ok_ordL C fun oq w C => ?_)
      | (with_reducible refine ah_draw ?_; refine ok_drawL C fun w C => ?_)
      | (with_reducible refine ah_ldA ?_; first | refine w_ldA1 C ?_ | refine w_ldA2 C ?_)
      | (with_reducible refine ah_ldA3 ?_; refine w_ldA3 C ?_)
      | (with_reducible refine ah_ldA4 ?_; refine w_ldA4 C ?_)
      | (with_reducible refine ah_ldN ?_; first | refine w_ldN1 C ?_ | refine w_ldN2 C ?_)
      | (with_reducible refine ah_ldN3 ?_; refine w_ldN3 C ?_)
      | (with_reducible refine ah_ldN4 ?_; refine w_ldN4 C ?_)
      | (with_reducible refine ah_chA ?_; first | refine w_chA1 C ?_ | refine w_chA2 C ?_)
      | (with_reducible refine ah_chA3 ?_; refine w_chA3 C ?_)
      | (with_reducible refine ah_chN ?_; first | refine w_chN1 C ?_ | refine w_chN2 C ?_)
      | (with_reducible refine ah_chN4 ?_; refine w_chN4 C ?_)
      | (with_reducible refine ah_wrA ?_; refine w_wrA1 C fun w C => ?_)
      | (with_reducible refine ah_wrN ?_; refine w_wrN1 C fun w C => ?_)
      | (with_reducible refine ah_wrN2 ?_; refine w_wrN2 C fun w C => ?_)
      | (with_reducible refine ah_wrN3 ?_; refine w_wrN3 C fun w C => ?_)
    refine ok_tB rfl ?_
    repeat first
      | with_reducible refine ok_assoc ?_
      | with_reducible refine ok_retB ?_
      | (with_reducible refine ah_newC ?_; refine ok_newL C fun bq w C => ?_)
      | (with_reducible refine ah_ord ?_; refine ok_ordL C fun oq w C => ?_)
      | (with_reducible refine ah_draw ?_; refine ok_drawL C fun w C => ?_)
      | (with_reducible refine ah_ldA ?_; first | refine w_ldA1 C ?_ | refine w_ldA2 C ?_)
      | (with_reducible refine ah_ldA3 ?_; refine w_ldA3 C ?_)
      | (with_reducible refine ah_ldA4 ?_; refine w_ldA4 C ?_)
      | (with_reducible refine ah_ldN ?_; first | refine w_ldN1 C ?_ | refine w_ldN2 C ?_)
      | (with_reducible refine ah_ldN3 ?_; refine w_ldN3 C ?_)
      | (with_reducible refine ah_ldN4 ?_; refine w_ldN4 C ?_)
      | (with_reducible refine ah_chA ?_; first | refine w_chA1 C ?_ | refine w_chA2 C ?_)
      | (with_reducible refine ah_chA3 ?_; refine w_chA3 C ?_)
      | (with_reducible refine ah_chN ?_; first | refine w_chN1 C ?_ | refine w_chN2 C ?_)
      | (with_reducible refine ah_chN4 ?_; refine w_chN4 C ?_)
      | (with_reducible refine ah_wrA ?_; refine w_wrA1 C fun w C => ?_)
      | (with_reducible refine ah_wrN ?_; refine w_wrN1 C fun w C => ?_)
      | (with_reducible refine ah_wrN2 ?_; refine w_wrN2 C fun w C => ?_)
      | (with_reducible refine ah_wrN3 ?_; refine w_wrN3 C fun w C => ?_)
    refine ok_true rfl ?_
    repeat first
      | with_reducible refine ok_assoc ?_
      | with_reducible refine ok_retB ?_
      | (with_reducible refine ah_newC ?_; refine ok_newL C fun bq w C => ?_)
      | (with_reducible refine ah_ord ?_; refine ok_ordL C fun oq w C => ?_)
      | (with_reducible refine ah_draw ?_; refine ok_drawL C fun w C => ?_)
      | (with_reducible refine ah_ldA ?_; first | refine w_ldA1 C ?_ | refine w_ldA2 C ?_)
      | (with_reducible refine ah_ldA3 ?_; refine w_ldA3 C ?_)
      | (with_reducible refine ah_ldA4 ?_; refine w_ldA4 C ?_)
      | (with_reducible refine ah_ldN ?_; first | refine w_ldN1 C ?_ | refine w_ldN2 C ?_)
      | (with_reducible refine ah_ldN3 ?_; refine w_ldN3 C ?_)
      | (with_reducible refine ah_ldN4 ?_; refine w_ldN4 C ?_)
      | (with_reducible refine ah_chA ?_; first | refine w_chA1 C ?_ | refine w_chA2 C ?_)
      | (with_reducible refine ah_chA3 ?_; refine w_chA3 C ?_)
      | (with_reducible refine ah_chN ?_; first | refine w_chN1 C ?_ | refine w_chN2 C ?_)
      | (with_reducible refine ah_chN4 ?_; refine w_chN4 C ?_)
      | (with_reducible refine ah_wrA ?_; refine w_wrA1 C fun w C => ?_)
      | (with_reducible refine ah_wrN ?_; refine w_wrN1 C fun w C => ?_)
      | (with_reducible refine ah_wrN2 ?_; refine w_wrN2 C fun w C => ?_)
      | (with_reducible refine ah_wrN3 ?_; refine w_wrN3 C fun w C => ?_)
    exact ok_ret.2 ⟨C.below, rfl⟩
  rw [if_neg hb]
  rw [if_neg hb] at hQ
  obtain ⟨ha, hbk⟩ := ck2_zero.1 h
  obtain ⟨x, rfl, hx⟩ := ck_ex ha
  obtain ⟨y, rfl, hy⟩ := ck_ex hbk
  rw [iv_lg] at hb
  simp only [iv_lg] at hQ ⊢
  have hqa := tdiv_abs x y
  have hra := tmod_abs x y
  unfold divZ
  generalize hq : Int.tdiv x y = q at *
  generalize hr : Int.tmod x y = r at *
  have hkeep : keeps r y = (strEq (lg r).2 (ByteArray.mk #[]) || ((lg r).1 == (lg y).1)) := by
    unfold keeps
    rw [strEq_eq, lg_neg, lg_neg]
    congr 1
    rw [decide_eq_decide, lg_mk]
  refine ok_is C hQ fun w C => ?_
  repeat first
    | with_reducible refine ok_assoc ?_
    | with_reducible refine ok_retB ?_
    | (with_reducible refine ah_newC ?_; refine ok_newL C fun bq w C => ?_)
    | (with_reducible refine ah_ord ?_; refine ok_ordL C fun oq w C => ?_)
    | (with_reducible refine ah_draw ?_; refine ok_drawL C fun w C => ?_)
    | (with_reducible refine ah_ldA ?_; first | refine w_ldA1 C ?_ | refine w_ldA2 C ?_)
    | (with_reducible refine ah_ldA3 ?_; refine w_ldA3 C ?_)
    | (with_reducible refine ah_ldA4 ?_; refine w_ldA4 C ?_)
    | (with_reducible refine ah_ldN ?_; first | refine w_ldN1 C ?_ | refine w_ldN2 C ?_)
    | (with_reducible refine ah_ldN3 ?_; refine w_ldN3 C ?_)
    | (with_reducible refine ah_ldN4 ?_; refine w_ldN4 C ?_)
    | (with_reducible refine ah_chA ?_; first | refine w_chA1 C ?_ | refine w_chA2 C ?_)
    | (with_reducible refine ah_chA3 ?_; refine w_chA3 C ?_)
    | (with_reducible refine ah_chN ?_; first | refine w_chN1 C ?_ | refine w_chN2 C ?_)
    | (with_reducible refine ah_chN4 ?_; refine w_chN4 C ?_)
    | (with_reducible refine ah_wrA ?_; refine w_wrA1 C fun w C => ?_)
    | (with_reducible refine ah_wrN ?_; refine w_wrN1 C fun w C => ?_)
    | (with_reducible refine ah_wrN2 ?_; refine w_wrN2 C fun w C => ?_)
    | (with_reducible refine ah_wrN3 ?_; refine w_wrN3 C fun w C => ?_)
  refine ok_fB rfl ?_
  repeat first
    | with_reducible refine ok_assoc ?_
    | with_reducible refine ok_retB ?_
    | (with_reducible refine ah_newC ?_; refine ok_newL C fun bq w C => ?_)
    | (with_reducible refine ah_ord ?_; refine ok_ordL C fun oq w C => ?_)
    | (with_reducible refine ah_draw ?_; refine ok_drawL C fun w C => ?_)
    | (with_reducible refine ah_ldA ?_; first | refine w_ldA1 C ?_ | refine w_ldA2 C ?_)
    | (with_reducible refine ah_ldA3 ?_; refine w_ldA3 C ?_)
    | (with_reducible refine ah_ldA4 ?_; refine w_ldA4 C ?_)
    | (with_reducible refine ah_ldN ?_; first | refine w_ldN1 C ?_ | refine w_ldN2 C ?_)
    | (with_reducible refine ah_ldN3 ?_; refine w_ldN3 C ?_)
    | (with_reducible refine ah_ldN4 ?_; refine w_ldN4 C ?_)
    | (with_reducible refine ah_chA ?_; first | refine w_chA1 C ?_ | refine w_chA2 C ?_)
    | (with_reducible refine ah_chA3 ?_; refine w_chA3 C ?_)
    | (with_reducible refine ah_chN ?_; first | refine w_chN1 C ?_ | refine w_chN2 C ?_)
    | (with_reducible refine ah_chN4 ?_; refine w_chN4 C ?_)
    | (with_reducible refine ah_wrA ?_; refine w_wrA1 C fun w C => ?_)
    | (with_reducible refine ah_wrN ?_; refine w_wrN1 C fun w C => ?_)
    | (with_reducible refine ah_wrN2 ?_; refine w_wrN2 C fun w C => ?_)
    | (with_reducible refine ah_wrN3 ?_; refine w_wrN3 C fun w C => ?_)
  have hbig : ¬ tooBig q.natAbs := tb_le hx (by rw [hqa]; exact Nat.div_le_self _ _)
  have hbig2 : ¬ tooBig r.natAbs := tb_le hx (by rw [hra]; exact Nat.mod_le _ _)
  refine ok_bnd.2 (ok_mono (Q := fun t w' => w' = w ∧ t = keeps r y) ?_ ?_)
  · rw [hkeep]
    by_cases hs : strEq (lg r).2 (ByteArray.mk #[]) = true
    · exact ok_true hs (ok_ret.2 ⟨rfl, by rw [hs]; rfl⟩)
    · rw [Bool.not_eq_true] at hs
      refine ok_false hs ?_
      rw [hs]
      repeat first
        | with_reducible refine ok_assoc ?_
        | with_reducible refine ok_retB ?_
        | (with_reducible refine ah_newC ?_; refine ok_newL C fun bq w C => ?_)
        | (with_reducible refine ah_ord ?_; refine ok_ordL C fun oq w C => ?_)
        | (with_reducible refine ah_draw ?_; refine ok_drawL C fun w C => ?_)
        | (with_reducible refine ah_ldA ?_; first | refine w_ldA1 C ?_ | refine w_ldA2 C ?_)
        | (with_reducible refine ah_ldA3 ?_; refine w_ldA3 C ?_)
        | (with_reducible refine ah_ldA4 ?_; refine w_ldA4 C ?_)
        | (with_reducible refine ah_ldN ?_; first | refine w_ldN1 C ?_ | refine w_ldN2 C ?_)
        | (with_reducible refine ah_ldN3 ?_; refine w_ldN3 C ?_)
        | (with_reducible refine ah_ldN4 ?_; refine w_ldN4 C ?_)
        | (with_reducible refine ah_chA ?_; first | refine w_chA1 C ?_ | refine w_chA2 C ?_)
        | (with_reducible refine ah_chA3 ?_; refine w_chA3 C ?_)
        | (with_reducible refine ah_chN ?_; first | refine w_chN1 C ?_ | refine w_chN2 C ?_)
        | (with_reducible refine ah_chN4 ?_; refine w_chN4 C ?_)
        | (with_reducible refine ah_wrA ?_; refine w_wrA1 C fun w C => ?_)
        | (with_reducible refine ah_wrN ?_; refine w_wrN1 C fun w C => ?_)
        | (with_reducible refine ah_wrN2 ?_; refine w_wrN2 C fun w C => ?_)
        | (with_reducible refine ah_wrN3 ?_; refine w_wrN3 C fun w C => ?_)
      exact ok_ret.2 ⟨rfl, by simp⟩
  rintro _ _ ⟨rfl, rfl⟩
  by_cases hk : keeps r y = true
  · rw [if_pos hk]
    refine ok_true hk ?_
    repeat first
      | with_reducible refine ok_assoc ?_
      | with_reducible refine ok_retB ?_
      | (with_reducible refine ah_newC ?_; refine ok_newL C fun bq w C => ?_)
      | (with_reducible refine ah_ord ?_; refine ok_ordL C fun oq w C => ?_)
      | (with_reducible refine ah_draw ?_; refine ok_drawL C fun w C => ?_)
      | (with_reducible refine ah_ldA ?_; first | refine w_ldA1 C ?_ | refine w_ldA2 C ?_)
      | (with_reducible refine ah_ldA3 ?_; refine w_ldA3 C ?_)
      | (with_reducible refine ah_ldA4 ?_; refine w_ldA4 C ?_)
      | (with_reducible refine ah_ldN ?_; first | refine w_ldN1 C ?_ | refine w_ldN2 C ?_)
      | (with_reducible refine ah_ldN3 ?_; refine w_ldN3 C ?_)
      | (with_reducible refine ah_ldN4 ?_; refine w_ldN4 C ?_)
      | (with_reducible refine ah_chA ?_; first | refine w_chA1 C ?_ | refine w_chA2 C ?_)
      | (with_reducible refine ah_chA3 ?_; refine w_chA3 C ?_)
      | (with_reducible refine ah_chN ?_; first | refine w_chN1 C ?_ | refine w_chN2 C ?_)
      | (with_reducible refine ah_chN4 ?_; refine w_chN4 C ?_)
      | (with_reducible refine ah_wrA ?_; refine w_wrA1 C fun w C => ?_)
      | (with_reducible refine ah_wrN ?_; refine w_wrN1 C fun w C => ?_)
      | (with_reducible refine ah_wrN2 ?_; refine w_wrN2 C fun w C => ?_)
      | (with_reducible refine ah_wrN3 ?_; refine w_wrN3 C fun w C => ?_)
    exact ok_ret.2 ⟨C.below, rfl⟩
  rw [if_neg hk]
  rw [Bool.not_eq_true] at hk
  refine ok_false hk ?_
  have hr0 : r ≠ 0 := by rintro rfl; simp [keeps] at hk
  have hadj : (q - 1).natAbs ≤ x.natAbs := by
    have := div_adj (n := x.natAbs) (m := y.natAbs) (by omega) (by rw [← hra]; omega)
    omega
  have hrs : (r + y).natAbs ≤ y.natAbs := by
    have h1 : r.natAbs < y.natAbs := by rw [hra]; exact Nat.mod_lt _ (by omega)
    unfold keeps at hk
    simp only [hr0, decide_false, Bool.false_or, beq_eq_false_iff_ne, ne_eq, decide_eq_decide] at hk
    omega
  repeat first
    | with_reducible refine ok_assoc ?_
    | with_reducible refine ok_retB ?_
    | (with_reducible refine ah_newC ?_; refine ok_newL C fun bq w C => ?_)
    | (with_reducible refine ah_ord ?_; refine ok_ordL C fun oq w C => ?_)
    | (with_reducible refine ah_draw ?_; refine ok_drawL C fun w C => ?_)
    | (with_reducible refine ah_ldA ?_; first | refine w_ldA1 C ?_ | refine w_ldA2 C ?_)
    | (with_reducible refine ah_ldA3 ?_; refine w_ldA3 C ?_)
    | (with_reducible refine ah_ldA4 ?_; refine w_ldA4 C ?_)
    | (with_reducible refine ah_ldN ?_; first | refine w_ldN1 C ?_ | refine w_ldN2 C ?_)
    | (with_reducible refine ah_ldN3 ?_; refine w_ldN3 C ?_)
    | (with_reducible refine ah_ldN4 ?_; refine w_ldN4 C ?_)
    | (with_reducible refine ah_chA ?_; first | refine w_chA1 C ?_ | refine w_chA2 C ?_)
    | (with_reducible refine ah_chA3 ?_; refine w_chA3 C ?_)
    | (with_reducible refine ah_chN ?_; first | refine w_chN1 C ?_ | refine w_chN2 C ?_)
    | (with_reducible refine ah_chN4 ?_; refine w_chN4 C ?_)
    | (with_reducible refine ah_wrA ?_; refine w_wrA1 C fun w C => ?_)
    | (with_reducible refine ah_wrN ?_; refine w_wrN1 C fun w C => ?_)
    | (with_reducible refine ah_wrN2 ?_; refine w_wrN2 C fun w C => ?_)
    | (with_reducible refine ah_wrN3 ?_; refine w_wrN3 C fun w C => ?_)
  refine ok_join C (ofz_spec hbig _) (fun r w' h => h.1) ?_
  rintro ⟨o1, s1⟩ w1 ⟨_, rfl⟩ C
  simp only [List.cons_append, List.nil_append] at C
  refine ok_is C (of_is (by decide) (by decide)) fun w C => ?_
  refine ok_join C (ofz_spec (z := -1) (tb_small (by decide)) _) (fun r w' h => h.1) ?_
  rintro ⟨o2, s2⟩ w1 ⟨_, rfl⟩ C
  simp only [List.cons_append, List.nil_append] at C
  have hl1 : o1.len = (dw q.natAbs).length := by have := (C.arr (i := 1) (xs := nums .u32 (dw q.natAbs)) rfl).1; simpa using this
  have hl2 : o2.len = (dw (-1 : Int).natAbs).length := by have := (C.arr (i := 0) (xs := nums .u32 (dw (-1 : Int).natAbs)) rfl).1; simpa using this
  have hw1 := tb_words hbig
  have hw2 := tb_words (n := (-1 : Int).natAbs) (tb_small (by decide))
  refine ok_callL C (nadd_spec (lg q).1 (lg (-1)).1 (C.arr (i := 1) (xs := nums .u32 (dw q.natAbs)) rfl) (C.arr (i := 0) (xs := nums .u32 (dw (-1 : Int).natAbs)) rfl) (by omega) (by omega)) (fun r w' h => h.1) ?_
  rintro ⟨r25, s25⟩ w2 ⟨hB, k, hrk, hv⟩ _
  simp only at hrk hv
  rw [sv_lg, sv_lg] at hv
  replace C := C.addOwn hB hrk
  clear hB
  have hl3 := len_add hw1 hw2 (k := k) (by have := sv_natAbs s25 k; rw [hv] at this; omega)
  refine ok_callL C (told_spec (C.arr (i := 0) (xs := nums .u32 (dw k)) rfl) (dw_dg k) (by rw [NO.len hrk]; omega) s25) (fun r w' h => h.1) ?_
  rintro t w3 ⟨_, ht⟩ C
  rw [vw_dw, Int.toNat_natCast, hv, show q + -1 = q - 1 from rfl] at ht
  have ht2 : toldZ (q - 1) = (lg (q - 1), 0) := by unfold toldZ; rw [if_neg (tb_le hx hadj)]
  rw [ht2] at ht
  subst ht
  repeat first
    | with_reducible refine ok_assoc ?_
    | with_reducible refine ok_retB ?_
    | (with_reducible refine ah_newC ?_; refine ok_newL C fun bq w C => ?_)
    | (with_reducible refine ah_ord ?_; refine ok_ordL C fun oq w C => ?_)
    | (with_reducible refine ah_draw ?_; refine ok_drawL C fun w C => ?_)
    | (with_reducible refine ah_ldA ?_; first | refine w_ldA1 C ?_ | refine w_ldA2 C ?_)
    | (with_reducible refine ah_ldA3 ?_; refine w_ldA3 C ?_)
    | (with_reducible refine ah_ldA4 ?_; refine w_ldA4 C ?_)
    | (with_reducible refine ah_ldN ?_; first | refine w_ldN1 C ?_ | refine w_ldN2 C ?_)
    | (with_reducible refine ah_ldN3 ?_; refine w_ldN3 C ?_)
    | (with_reducible refine ah_ldN4 ?_; refine w_ldN4 C ?_)
    | (with_reducible refine ah_chA ?_; first | refine w_chA1 C ?_ | refine w_chA2 C ?_)
    | (with_reducible refine ah_chA3 ?_; refine w_chA3 C ?_)
    | (with_reducible refine ah_chN ?_; first | refine w_chN1 C ?_ | refine w_chN2 C ?_)
    | (with_reducible refine ah_chN4 ?_; refine w_chN4 C ?_)
    | (with_reducible refine ah_wrA ?_; refine w_wrA1 C fun w C => ?_)
    | (with_reducible refine ah_wrN ?_; refine w_wrN1 C fun w C => ?_)
    | (with_reducible refine ah_wrN2 ?_; refine w_wrN2 C fun w C => ?_)
    | (with_reducible refine ah_wrN3 ?_; refine w_wrN3 C fun w C => ?_)
  refine ok_false rfl ?_
  repeat first
    | with_reducible refine ok_assoc ?_
    | with_reducible refine ok_retB ?_
    | (with_reducible refine ah_newC ?_; refine ok_newL C fun bq w C => ?_)
    | (with_reducible refine ah_ord ?_; refine ok_ordL C fun oq w C => ?_)
    | (with_reducible refine ah_draw ?_; refine ok_drawL C fun w C => ?_)
    | (with_reducible refine ah_ldA ?_; first | refine w_ldA1 C ?_ | refine w_ldA2 C ?_)
    | (with_reducible refine ah_ldA3 ?_; refine w_ldA3 C ?_)
    | (with_reducible refine ah_ldA4 ?_; refine w_ldA4 C ?_)
    | (with_reducible refine ah_ldN ?_; first | refine w_ldN1 C ?_ | refine w_ldN2 C ?_)
    | (with_reducible refine ah_ldN3 ?_; refine w_ldN3 C ?_)
    | (with_reducible refine ah_ldN4 ?_; refine w_ldN4 C ?_)
    | (with_reducible refine ah_chA ?_; first | refine w_chA1 C ?_ | refine w_chA2 C ?_)
    | (with_reducible refine ah_chA3 ?_; refine w_chA3 C ?_)
    | (with_reducible refine ah_chN ?_; first | refine w_chN1 C ?_ | refine w_chN2 C ?_)
    | (with_reducible refine ah_chN4 ?_; refine w_chN4 C ?_)
    | (with_reducible refine ah_wrA ?_; refine w_wrA1 C fun w C => ?_)
    | (with_reducible refine ah_wrN ?_; refine w_wrN1 C fun w C => ?_)
    | (with_reducible refine ah_wrN2 ?_; refine w_wrN2 C fun w C => ?_)
    | (with_reducible refine ah_wrN3 ?_; refine w_wrN3 C fun w C => ?_)
  refine ok_join C (ofz_spec hbig2 _) (fun r w' h => h.1) ?_
  rintro ⟨o3, s3⟩ w4 ⟨_, rfl⟩ C
  simp only [List.cons_append, List.nil_append] at C
  repeat first
    | with_reducible refine ok_assoc ?_
    | with_reducible refine ok_retB ?_
    | (with_reducible refine ah_newC ?_; refine ok_newL C fun bq w C => ?_)
    | (with_reducible refine ah_ord ?_; refine ok_ordL C fun oq w C => ?_)
    | (with_reducible refine ah_draw ?_; refine ok_drawL C fun w C => ?_)
    | (with_reducible refine ah_ldA ?_; first | refine w_ldA1 C ?_ | refine w_ldA2 C ?_)
    | (with_reducible refine ah_ldA3 ?_; refine w_ldA3 C ?_)
    | (with_reducible refine ah_ldA4 ?_; refine w_ldA4 C ?_)
    | (with_reducible refine ah_ldN ?_; first | refine w_ldN1 C ?_ | refine w_ldN2 C ?_)
    | (with_reducible refine ah_ldN3 ?_; refine w_ldN3 C ?_)
    | (with_reducible refine ah_ldN4 ?_; refine w_ldN4 C ?_)
    | (with_reducible refine ah_chA ?_; first | refine w_chA1 C ?_ | refine w_chA2 C ?_)
    | (with_reducible refine ah_chA3 ?_; refine w_chA3 C ?_)
    | (with_reducible refine ah_chN ?_; first | refine w_chN1 C ?_ | refine w_chN2 C ?_)
    | (with_reducible refine ah_chN4 ?_; refine w_chN4 C ?_)
    | (with_reducible refine ah_wrA ?_; refine w_wrA1 C fun w C => ?_)
    | (with_reducible refine ah_wrN ?_; refine w_wrN1 C fun w C => ?_)
    | (with_reducible refine ah_wrN2 ?_; refine w_wrN2 C fun w C => ?_)
    | (with_reducible refine ah_wrN3 ?_; refine w_wrN3 C fun w C => ?_)
  refine ok_join C (ofz_spec hy _) (fun r w' h => h.1) ?_
  rintro ⟨o4, s4⟩ w5 ⟨_, rfl⟩ C
  simp only [List.cons_append, List.nil_append] at C
  repeat first
    | with_reducible refine ok_assoc ?_
    | with_reducible refine ok_retB ?_
    | (with_reducible refine ah_newC ?_; refine ok_newL C fun bq w C => ?_)
    | (with_reducible refine ah_ord ?_; refine ok_ordL C fun oq w C => ?_)
    | (with_reducible refine ah_draw ?_; refine ok_drawL C fun w C => ?_)
    | (with_reducible refine ah_ldA ?_; first | refine w_ldA1 C ?_ | refine w_ldA2 C ?_)
    | (with_reducible refine ah_ldA3 ?_; refine w_ldA3 C ?_)
    | (with_reducible refine ah_ldA4 ?_; refine w_ldA4 C ?_)
    | (with_reducible refine ah_ldN ?_; first | refine w_ldN1 C ?_ | refine w_ldN2 C ?_)
    | (with_reducible refine ah_ldN3 ?_; refine w_ldN3 C ?_)
    | (with_reducible refine ah_ldN4 ?_; refine w_ldN4 C ?_)
    | (with_reducible refine ah_chA ?_; first | refine w_chA1 C ?_ | refine w_chA2 C ?_)
    | (with_reducible refine ah_chA3 ?_; refine w_chA3 C ?_)
    | (with_reducible refine ah_chN ?_; first | refine w_chN1 C ?_ | refine w_chN2 C ?_)
    | (with_reducible refine ah_chN4 ?_; refine w_chN4 C ?_)
    | (with_reducible refine ah_wrA ?_; refine w_wrA1 C fun w C => ?_)
    | (with_reducible refine ah_wrN ?_; refine w_wrN1 C fun w C => ?_)
    | (with_reducible refine ah_wrN2 ?_; refine w_wrN2 C fun w C => ?_)
    | (with_reducible refine ah_wrN3 ?_; refine w_wrN3 C fun w C => ?_)
  have hl4 : o3.len = (dw r.natAbs).length := by have := (C.arr (i := 1) (xs := nums .u32 (dw r.natAbs)) rfl).1; simpa using this
  have hl5 : o4.len = (dw y.natAbs).length := by have := (C.arr (i := 0) (xs := nums .u32 (dw y.natAbs)) rfl).1; simpa using this
  have hw3 := tb_words hbig2
  have hw4 := tb_words hy
  refine ok_callL C (nadd_spec (lg r).1 (lg y).1 (C.arr (i := 1) (xs := nums .u32 (dw r.natAbs)) rfl) (C.arr (i := 0) (xs := nums .u32 (dw y.natAbs)) rfl) (by omega) (by omega)) (fun r w' h => h.1) ?_
  rintro ⟨r35, s35⟩ w6 ⟨hB, k2, hrk2, hv2⟩ _
  simp only at hrk2 hv2
  rw [sv_lg, sv_lg] at hv2
  replace C := C.addOwn hB hrk2
  clear hB
  have hl6 := len_add hw3 hw4 (k := k2) (by have := sv_natAbs s35 k2; rw [hv2] at this; omega)
  repeat first
    | with_reducible refine ok_assoc ?_
    | with_reducible refine ok_retB ?_
    | (with_reducible refine ah_newC ?_; refine ok_newL C fun bq w C => ?_)
    | (with_reducible refine ah_ord ?_; refine ok_ordL C fun oq w C => ?_)
    | (with_reducible refine ah_draw ?_; refine ok_drawL C fun w C => ?_)
    | (with_reducible refine ah_ldA ?_; first | refine w_ldA1 C ?_ | refine w_ldA2 C ?_)
    | (with_reducible refine ah_ldA3 ?_; refine w_ldA3 C ?_)
    | (with_reducible refine ah_ldA4 ?_; refine w_ldA4 C ?_)
    | (with_reducible refine ah_ldN ?_; first | refine w_ldN1 C ?_ | refine w_ldN2 C ?_)
    | (with_reducible refine ah_ldN3 ?_; refine w_ldN3 C ?_)
    | (with_reducible refine ah_ldN4 ?_; refine w_ldN4 C ?_)
    | (with_reducible refine ah_chA ?_; first | refine w_chA1 C ?_ | refine w_chA2 C ?_)
    | (with_reducible refine ah_chA3 ?_; refine w_chA3 C ?_)
    | (with_reducible refine ah_chN ?_; first | refine w_chN1 C ?_ | refine w_chN2 C ?_)
    | (with_reducible refine ah_chN4 ?_; refine w_chN4 C ?_)
    | (with_reducible refine ah_wrA ?_; refine w_wrA1 C fun w C => ?_)
    | (with_reducible refine ah_wrN ?_; refine w_wrN1 C fun w C => ?_)
    | (with_reducible refine ah_wrN2 ?_; refine w_wrN2 C fun w C => ?_)
    | (with_reducible refine ah_wrN3 ?_; refine w_wrN3 C fun w C => ?_)
  refine ok_callL C (told_spec (C.arr (i := 0) (xs := nums .u32 (dw k2)) rfl) (dw_dg k2) (by rw [NO.len hrk2]; omega) s35) (fun r w' h => h.1) ?_
  rintro t w7 ⟨_, ht⟩ C
  have ht2 : toldZ (r + y) = (lg (r + y), 0) := by unfold toldZ; rw [if_neg (tb_le hy hrs)]
  rw [vw_dw, Int.toNat_natCast, hv2, ht2] at ht
  subst ht
  repeat first
    | with_reducible refine ok_assoc ?_
    | with_reducible refine ok_retB ?_
    | (with_reducible refine ah_newC ?_; refine ok_newL C fun bq w C => ?_)
    | (with_reducible refine ah_ord ?_; refine ok_ordL C fun oq w C => ?_)
    | (with_reducible refine ah_draw ?_; refine ok_drawL C fun w C => ?_)
    | (with_reducible refine ah_ldA ?_; first | refine w_ldA1 C ?_ | refine w_ldA2 C ?_)
    | (with_reducible refine ah_ldA3 ?_; refine w_ldA3 C ?_)
    | (with_reducible refine ah_ldA4 ?_; refine w_ldA4 C ?_)
    | (with_reducible refine ah_ldN ?_; first | refine w_ldN1 C ?_ | refine w_ldN2 C ?_)
    | (with_reducible refine ah_ldN3 ?_; refine w_ldN3 C ?_)
    | (with_reducible refine ah_ldN4 ?_; refine w_ldN4 C ?_)
    | (with_reducible refine ah_chA ?_; first | refine w_chA1 C ?_ | refine w_chA2 C ?_)
    | (with_reducible refine ah_chA3 ?_; refine w_chA3 C ?_)
    | (with_reducible refine ah_chN ?_; first | refine w_chN1 C ?_ | refine w_chN2 C ?_)
    | (with_reducible refine ah_chN4 ?_; refine w_chN4 C ?_)
    | (with_reducible refine ah_wrA ?_; refine w_wrA1 C fun w C => ?_)
    | (with_reducible refine ah_wrN ?_; refine w_wrN1 C fun w C => ?_)
    | (with_reducible refine ah_wrN2 ?_; refine w_wrN2 C fun w C => ?_)
    | (with_reducible refine ah_wrN3 ?_; refine w_wrN3 C fun w C => ?_)
  exact ok_ret.2 ⟨C.below, rfl⟩
end Go.Proofs.Ytoekfjgikicclaa
