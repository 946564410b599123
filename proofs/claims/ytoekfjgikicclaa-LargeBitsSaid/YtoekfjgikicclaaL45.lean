/-
  Part of the proof: L45. It states what the functions do; no further condition.
-/
import Derived.Test.YtoekfjgikicclaaL44
set_option linter.unusedVariables false
set_option linter.unusedSimpArgs false
namespace Go.Proofs.Ytoekfjgikicclaa
set_option linter.unusedVariables false
open Go.Sh Go.RowKit
set_option maxRecDepth 100000
/-! ### The document's shifts and lengths in bits; the law of bits -/
theorem hop0 : Hop 0 and (bAnd .u8) := .inl ⟨rfl, rfl, rfl⟩
theorem hop1 : Hop 1 or (bOr .u8) := .inr (.inl ⟨rfl, rfl, rfl⟩)
theorem hop2 : Hop 2 xor (bXor .u8) := .inr (.inr ⟨rfl, rfl, rfl⟩)
theorem rAnd_is (a b : Lg) : Is (f25_palaverref09_And a b) (logR and a b) := by
  intro wb
  unfold f25_palaverref09_And
  have C := Cx.nil No wb
  repeat first
    | with_reducible refine ok_assoc ?_
    | with_reducible refine ok_retB ?_
    | with_reducible refine ok_is C (rlogic_is hop0 _ _) fun w C => ?_
    | (with_reducible refine ah_newC ?_; refine ok_newL C fun bq w C => ?_)
    | (with_reducible refine ah_ord ?_; refine ok_ordL C fun oq w C => ?_)
    | (with_reducible refine ah_draw ?_; refine ok_drawL C fun w C => ?_)
    | (with_reducible refine ah_ldA ?_; first | refine w_ldA1 C ?_ | refine w_ldA2 C ?_)
    | (with_reducible refine ah_ldA3 ?_; refine w_ldA3 C ?_)
    | (with_reducible refine ah_ldA4 ?_; refine w_ldA4 C ?_)
    | (with_reducible refine ah_chA ?_; first | refine w_chA1 C ?_ | refine w_chA2 C ?_)
    | (with_reducible refine ah_chA3 ?_; refine w_chA3 C ?_)
    | (with_reducible refine ah_wrA ?_; refine w_wrA1 C fun w C => ?_)
  exact ok_ret.2 ⟨C.below, rfl⟩
theorem rOr_is (a b : Lg) : Is (f27_palaverref09_Or a b) (logR or a b) := by
  intro wb
  unfold f27_palaverref09_Or
  have C := Cx.nil No wb
  repeat first
    | with_reducible refine ok_assoc ?_
    | with_reducible refine ok_retB ?_
    | with_reducible refine ok_is C (rlogic_is hop1 _ _) fun w C => ?_
    | (with_reducible refine ah_newC ?_; refine ok_newL C fun bq w C => ?_)
    | (with_reducible refine ah_ord ?_; refine ok_ordL C fun oq w C => ?_)
    | (with_reducible refine ah_draw ?_; refine ok_drawL C fun w C => ?_)
    | (with_reducible refine ah_ldA ?_; first | refine w_ldA1 C ?_ | refine w_ldA2 C ?_)
    | (with_reducible refine ah_ldA3 ?_; refine w_ldA3 C ?_)
    | (with_reducible refine ah_ldA4 ?_; refine w_ldA4 C ?_)
    | (with_reducible refine ah_chA ?_; first | refine w_chA1 C ?_ | refine w_chA2 C ?_)
    | (with_reducible refine ah_chA3 ?_; refine w_chA3 C ?_)
    | (with_reducible refine ah_wrA ?_; refine w_wrA1 C fun w C => ?_)
  exact ok_ret.2 ⟨C.below, rfl⟩
theorem rXor_is (a b : Lg) : Is (f29_palaverref09_Xor a b) (logR xor a b) := by
  intro wb
  unfold f29_palaverref09_Xor
  have C := Cx.nil No wb
  repeat first
    | with_reducible refine ok_assoc ?_
    | with_reducible refine ok_retB ?_
    | with_reducible refine ok_is C (rlogic_is hop2 _ _) fun w C => ?_
    | (with_reducible refine ah_newC ?_; refine ok_newL C fun bq w C => ?_)
    | (with_reducible refine ah_ord ?_; refine ok_ordL C fun oq w C => ?_)
    | (with_reducible refine ah_draw ?_; refine ok_drawL C fun w C => ?_)
    | (with_reducible refine ah_ldA ?_; first | refine w_ldA1 C ?_ | refine w_ldA2 C ?_)
    | (with_reducible refine ah_ldA3 ?_; refine w_ldA3 C ?_)
    | (with_reducible refine ah_ldA4 ?_; refine w_ldA4 C ?_)
    | (with_reducible refine ah_chA ?_; first | refine w_chA1 C ?_ | refine w_chA2 C ?_)
    | (with_reducible refine ah_chA3 ?_; refine w_chA3 C ?_)
    | (with_reducible refine ah_wrA ?_; refine w_wrA1 C fun w C => ?_)
  exact ok_ret.2 ⟨C.below, rfl⟩
theorem power_spec {n : Nat} (hn : n ≤ 32768) (w : World) : Ok (f74_palaverref09_power (n : Int)) w fun r w' => ∃ l, Cx No w w' [.own r (nums .u8 l)] ∧ D8 l ∧ l.length ≤ 5000 ∧ v8 l = 2 ^ n := by
  unfold f74_palaverref09_power
  have e1 : IntKind.wrap .i64 (Int.tdiv (n : Int) 8) = ((n / 8 : Nat) : Int) := by rw [Int.tdiv_eq_ediv_of_nonneg (by omega), wrapI_in (by omega)]; omega
  have e2 : IntKind.wrap .i64 (((n / 8 : Nat) : Int) + 1) = ((n / 8 + 1 : Nat) : Int) := by rw [wrapI_in (by omega)]; omega
  have e3 : IntKind.wrap .u64 (Int.tmod (n : Int) 8) = ((n % 8 : Nat) : Int) := by rw [Int.tmod_eq_emod_of_nonneg (by omega), wrapU_in (by omega)]; omega
  rw [e1, e2, e3]
  refine ok_makeN slt61 (Cx.nil No w) (by omega) (by omega) (by omega) fun v w1 hv ⟨bv, hb⟩ C => ?_
  rw [Int.toNat_natCast] at C hv
  refine ok_bnd.2 (ok_cnt.2 ⟨by omega, ?_⟩)
  rw [Int.toNat_natCast]
  refine ok_ixO hb (by omega) (by omega) ?_
  rw [Int.toNat_natCast]
  have hp : (2 : Nat) ^ (n % 8) ≤ 2 ^ 7 := Nat.pow_le_pow_right (by decide) (by omega)
  have hp0 : 0 < 2 ^ (n % 8) := Nat.two_pow_pos _
  have esh : shlI .u8 1 (n % 8) = ((2 ^ (n % 8) : Nat) : Int) := by
    unfold shlI
    rw [show IntKind.bits .u8 = 8 from rfl, Nat.min_eq_left (by omega), Int.one_mul, show (2 : Int) ^ (n % 8) = ((2 ^ (n % 8) : Nat) : Int) from by simp, wrap8, Nat.mod_eq_of_lt (by omega)]
  rw [esh]
  have hz : (List.replicate (n / 8 + 1) (0 : Int))[n / 8]? = some 0 := by rw [List.getElem?_replicate, if_pos (by omega)]
  have hd : D8 ((List.replicate (n / 8 + 1) (0 : Int)).set (n / 8) ((2 ^ (n % 8) : Nat) : Int)) := (Dg.zeros (by decide) _).set _ (by omega) (by omega)
  refine ok_wrO C (i := 0) rfl hb (by simp) fun w5 C5 => ok_ret.2 ⟨_, C5, hd, by simp; omega, ?_⟩
  have h1 : vl 256 ((List.replicate (n / 8 + 1) (0 : Int)).set (n / 8) ((2 ^ (n % 8) : Nat) : Int)) = ((2 ^ n : Nat) : Int) := by
    rw [vl_set hz, vl_zeros, Int.sub_zero, Int.zero_add]
    have e4 : (256 : Int) ^ (n / 8) = ((2 ^ (8 * (n / 8)) : Nat) : Int) := by rw [Nat.pow_mul]; simp
    rw [e4, ← Int.natCast_mul, ← Nat.pow_add, Nat.div_add_mod]
  unfold v8
  rw [h1, Int.toNat_natCast]
theorem rshift_is (a : Lg) {k : Int} (hk : -9223372036854775808 ≤ k ∧ k ≤ 9223372036854775807) : Is (f31_palaverref09_Shift a k) (shiftR a k) := by
  intro wb
  unfold f31_palaverref09_Shift
  have C := Cx.nil No wb
  repeat first
    | with_reducible refine ok_assoc ?_
    | with_reducible refine ok_retB ?_
    | with_reducible refine ok_is C (rcheck_is _) fun w C => ?_
    | (with_reducible refine ah_newC ?_; refine ok_newL C fun bq w C => ?_)
    | (with_reducible refine ah_ord ?_; refine ok_ordL C fun oq w C => ?_)
    | (with_reducible refine ah_draw ?_; refine ok_drawL C fun w C => ?_)
    | (with_reducible refine ah_ldA ?_; first | refine w_ldA1 C ?_ | refine w_ldA2 C ?_)
    | (with_reducible refine ah_ldA3 ?_; refine w_ldA3 C ?_)
    | (with_reducible refine ah_ldA4 ?_; refine w_ldA4 C ?_)
    | (with_reducible refine ah_chA ?_; first | refine w_chA1 C ?_ | refine w_chA2 C ?_)
    | (with_reducible refine ah_chA3 ?_; refine w_chA3 C ?_)
    | (with_reducible refine ah_wrA ?_; refine w_wrA1 C fun w C => ?_)
  by_cases h : ck a = 0
  rotate_left
  · unfold shiftR
    rw [if_neg h]
    refine ok_true (by simpa using h) ?_
    repeat first
      | with_reducible refine ok_assoc ?_
      | with_reducible refine ok_retB ?_
      | (with_reducible refine ah_newC ?_; refine ok_newL C fun bq w C => ?_)
      | (with_reducible refine ah_ord ?_; refine ok_ordL C fun oq w C => ?_)
      | (with_reducible refine ah_draw ?_; refine ok_drawL C fun w C => ?_)
      | (with_reducible refine ah_ldA ?_; first | refine w_ldA1 C ?_ | refine w_ldA2 C ?_)
      | (with_reducible refine ah_ldA3 ?_; refine w_ldA3 C ?_)
      | (with_reducible refine ah_ldA4 ?_; refine w_ldA4 C ?_)
      | (with_reducible refine ah_chA ?_; first | refine w_chA1 C ?_ | refine w_chA2 C ?_)
      | (with_reducible refine ah_chA3 ?_; refine w_chA3 C ?_)
      | (with_reducible refine ah_wrA ?_; refine w_wrA1 C fun w C => ?_)
    exact ok_ret.2 ⟨C.below, rfl⟩
  refine ok_false (by simpa using h) ?_
  by_cases hf : k < -32768 ∨ 32768 < k
  · unfold shiftR
    rw [if_pos h, if_pos hf]
    refine ok_true ?_ ?_
    · by_cases h1 : k < -32768
      · simp [h1]
      · simp [h1]; omega
    repeat first
      | with_reducible refine ok_assoc ?_
      | with_reducible refine ok_retB ?_
      | (with_reducible refine ah_newC ?_; refine ok_newL C fun bq w C => ?_)
      | (with_reducible refine ah_ord ?_; refine ok_ordL C fun oq w C => ?_)
      | (with_reducible refine ah_draw ?_; refine ok_drawL C fun w C => ?_)
      | (with_reducible refine ah_ldA ?_; first | refine w_ldA1 C ?_ | refine w_ldA2 C ?_)
      | (with_reducible refine ah_ldA3 ?_; refine w_ldA3 C ?_)
      | (with_reducible refine ah_ldA4 ?_; refine w_ldA4 C ?_)
      | (with_reducible refine ah_chA ?_; first | refine w_chA1 C ?_ | refine w_chA2 C ?_)
      | (with_reducible refine ah_chA3 ?_; refine w_chA3 C ?_)
      | (with_reducible refine ah_wrA ?_; refine w_wrA1 C fun w C => ?_)
    exact ok_ret.2 ⟨C.below, rfl⟩
  refine ok_false (by simp only [show ¬ k < -32768 by omega, decide_false, cond_false, gt_iff_lt, decide_eq_false_iff_not]; omega) ?_
  obtain ⟨x, rfl, hx⟩ := ck_ex h
  have lx := tb_len hx
  rw [shiftR_lg hx (by omega) (by omega)]
  have dx : D8 (db x.natAbs) := dg_dgs h256 _
  by_cases h0 : 0 ≤ k
  · refine ok_true (by simpa using h0) ?_
    obtain ⟨n, rfl⟩ := Int.eq_ofNat_of_zero_le h0
    have eS : shlZ x (n : Int) = x * 2 ^ n := by unfold shlZ; rw [if_pos h0, Int.toNat_natCast]
    have eV : sv (lg x).1 (x.natAbs * 2 ^ n) = x * 2 ^ n := by rw [sv_pow, sv_lg]
    rw [eS]
    repeat first
      | with_reducible refine ok_assoc ?_
      | with_reducible refine ok_retB ?_
      | (with_reducible refine ah_chA4 ?_; refine w_chA4 C ?_)
      | (with_reducible refine ah_newC ?_; refine ok_newL C fun bq w C => ?_)
      | (with_reducible refine ah_ord ?_; refine ok_ordL C fun oq w C => ?_)
      | (with_reducible refine ah_draw ?_; refine ok_drawL C fun w C => ?_)
      | (with_reducible refine ah_ldA ?_; first | refine w_ldA1 C ?_ | refine w_ldA2 C ?_)
      | (with_reducible refine ah_ldA3 ?_; refine w_ldA3 C ?_)
      | (with_reducible refine ah_ldA4 ?_; refine w_ldA4 C ?_)
      | (with_reducible refine ah_chA ?_; first | refine w_chA1 C ?_ | refine w_chA2 C ?_)
      | (with_reducible refine ah_chA3 ?_; refine w_chA3 C ?_)
      | (with_reducible refine ah_wrA ?_; refine w_wrA1 C fun w C => ?_)
    cases hbf : bef oq 2 4
    · refine ok_fB rfl ?_
      refine ok_assoc (ok_bnd.2 (ok_mono (power_spec (by omega) _) ?_))
      rintro p w1 ⟨l, D, dl, ll, vl'⟩
      replace C := C.join D
      simp only [List.cons_append, List.nil_append] at C
      repeat first
        | with_reducible refine ok_assoc ?_
        | with_reducible refine ok_retB ?_
        | (with_reducible refine ah_chA4 ?_; refine w_chA4 C ?_)
        | (with_reducible refine ah_newC ?_; refine ok_newL C fun bq w C => ?_)
        | (with_reducible refine ah_ord ?_; refine ok_ordL C fun oq w C => ?_)
        | (with_reducible refine ah_draw ?_; refine ok_drawL C fun w C => ?_)
        | (with_reducible refine ah_ldA ?_; first | refine w_ldA1 C ?_ | refine w_ldA2 C ?_)
        | (with_reducible refine ah_ldA3 ?_; refine w_ldA3 C ?_)
        | (with_reducible refine ah_ldA4 ?_; refine w_ldA4 C ?_)
        | (with_reducible refine ah_chA ?_; first | refine w_chA1 C ?_ | refine w_chA2 C ?_)
        | (with_reducible refine ah_chA3 ?_; refine w_chA3 C ?_)
        | (with_reducible refine ah_wrA ?_; refine w_wrA1 C fun w C => ?_)
      refine ok_toBytes C und9 slt61.under und5 (tb_max hx) fun vx w C hvx => ?_
      rw [bl_lg] at C
      repeat first
        | with_reducible refine ok_assoc ?_
        | with_reducible refine ok_retB ?_
        | (with_reducible refine ah_newC ?_; refine ok_newL C fun bq w C => ?_)
        | (with_reducible refine ah_ord ?_; refine ok_ordL C fun oq w C => ?_)
        | (with_reducible refine ah_draw ?_; refine ok_drawL C fun w C => ?_)
        | (with_reducible refine ah_ldA ?_; first | refine w_ldA1 C ?_ | refine w_ldA2 C ?_)
        | (with_reducible refine ah_ldA3 ?_; refine w_ldA3 C ?_)
        | (with_reducible refine ah_ldA4 ?_; refine w_ldA4 C ?_)
        | (with_reducible refine ah_chA ?_; first | refine w_chA1 C ?_ | refine w_chA2 C ?_)
        | (with_reducible refine ah_chA3 ?_; refine w_chA3 C ?_)
        | (with_reducible refine ah_wrA ?_; refine w_wrA1 C fun w C => ?_)
      refine ok_callL C (times_spec (a := db x.natAbs) (c := l) (C.arr (i := 0) rfl) (C.arr (i := 1) rfl) dx dl (by omega) (by omega)) (fun r w' h => h.1) ?_
      rintro r w1 ⟨hB, hr⟩ _
      rw [v8_db, vl'] at hr
      replace C := C.addOwn hB hr
      clear hB hr
      repeat first
        | with_reducible refine ok_assoc ?_
        | with_reducible refine ok_retB ?_
        | (with_reducible refine ah_newC ?_; refine ok_newL C fun bq w C => ?_)
        | (with_reducible refine ah_ord ?_; refine ok_ordL C fun oq w C => ?_)
        | (with_reducible refine ah_draw ?_; refine ok_drawL C fun w C => ?_)
        | (with_reducible refine ah_ldA ?_; first | refine w_ldA1 C ?_ | refine w_ldA2 C ?_)
        | (with_reducible refine ah_ldA3 ?_; refine w_ldA3 C ?_)
        | (with_reducible refine ah_ldA4 ?_; refine w_ldA4 C ?_)
        | (with_reducible refine ah_chA ?_; first | refine w_chA1 C ?_ | refine w_chA2 C ?_)
        | (with_reducible refine ah_chA3 ?_; refine w_chA3 C ?_)
        | (with_reducible refine ah_wrA ?_; refine w_wrA1 C fun w C => ?_)
      refine ok_callL C (made_spec (l := db (x.natAbs * 2 ^ n)) (C.arr (i := 0) rfl) (dg_dgs h256 _) _) (fun r w' h => h.1) ?_
      rintro t w2 ⟨_, ht⟩ C
      rw [v8_db, eV] at ht
      subst ht
      repeat first
        | with_reducible refine ok_assoc ?_
        | with_reducible refine ok_retB ?_
        | (with_reducible refine ah_newC ?_; refine ok_newL C fun bq w C => ?_)
        | (with_reducible refine ah_ord ?_; refine ok_ordL C fun oq w C => ?_)
        | (with_reducible refine ah_draw ?_; refine ok_drawL C fun w C => ?_)
        | (with_reducible refine ah_ldA ?_; first | refine w_ldA1 C ?_ | refine w_ldA2 C ?_)
        | (with_reducible refine ah_ldA3 ?_; refine w_ldA3 C ?_)
        | (with_reducible refine ah_ldA4 ?_; refine w_ldA4 C ?_)
        | (with_reducible refine ah_chA ?_; first | refine w_chA1 C ?_ | refine w_chA2 C ?_)
        | (with_reducible refine ah_chA3 ?_; refine w_chA3 C ?_)
        | (with_reducible refine ah_wrA ?_; refine w_wrA1 C fun w C => ?_)
      exact ok_ret.2 ⟨C.below, rfl⟩
    · refine ok_tB rfl ?_
      refine ok_assoc (ok_toBytes C und9 slt61.under und5 (tb_max hx) fun vx w C hvx => ?_)
      rw [bl_lg] at C
      repeat first
        | with_reducible refine ok_assoc ?_
        | with_reducible refine ok_retB ?_
        | (with_reducible refine ah_newC ?_; refine ok_newL C fun bq w C => ?_)
        | (with_reducible refine ah_ord ?_; refine ok_ordL C fun oq w C => ?_)
        | (with_reducible refine ah_draw ?_; refine ok_drawL C fun w C => ?_)
        | (with_reducible refine ah_ldA ?_; first | refine w_ldA1 C ?_ | refine w_ldA2 C ?_)
        | (with_reducible refine ah_ldA3 ?_; refine w_ldA3 C ?_)
        | (with_reducible refine ah_ldA4 ?_; refine w_ldA4 C ?_)
        | (with_reducible refine ah_chA ?_; first | refine w_chA1 C ?_ | refine w_chA2 C ?_)
        | (with_reducible refine ah_chA3 ?_; refine w_chA3 C ?_)
        | (with_reducible refine ah_wrA ?_; refine w_wrA1 C fun w C => ?_)
      refine ok_bnd.2 (ok_mono (power_spec (by omega) _) ?_)
      rintro p w1 ⟨l, D, dl, ll, vl'⟩
      replace C := C.join D
      simp only [List.cons_append, List.nil_append] at C
      repeat first
        | with_reducible refine ok_assoc ?_
        | with_reducible refine ok_retB ?_
        | (with_reducible refine ah_newC ?_; refine ok_newL C fun bq w C => ?_)
        | (with_reducible refine ah_ord ?_; refine ok_ordL C fun oq w C => ?_)
        | (with_reducible refine ah_draw ?_; refine ok_drawL C fun w C => ?_)
        | (with_reducible refine ah_ldA ?_; first | refine w_ldA1 C ?_ | refine w_ldA2 C ?_)
        | (with_reducible refine ah_ldA3 ?_; refine w_ldA3 C ?_)
        | (with_reducible refine ah_ldA4 ?_; refine w_ldA4 C ?_)
        | (with_reducible refine ah_chA ?_; first | refine w_chA1 C ?_ | refine w_chA2 C ?_)
        | (with_reducible refine ah_chA3 ?_; refine w_chA3 C ?_)
        | (with_reducible refine ah_wrA ?_; refine w_wrA1 C fun w C => ?_)
      refine ok_callL C (times_spec (a := db x.natAbs) (c := l) (C.arr (i := 1) rfl) (C.arr (i := 0) rfl) dx dl (by omega) (by omega)) (fun r w' h => h.1) ?_
      rintro r w1 ⟨hB, hr⟩ _
      rw [v8_db, vl'] at hr
      replace C := C.addOwn hB hr
      clear hB hr
      repeat first
        | with_reducible refine ok_assoc ?_
        | with_reducible refine ok_retB ?_
        | (with_reducible refine ah_newC ?_; refine ok_newL C fun bq w C => ?_)
        | (with_reducible refine ah_ord ?_; refine ok_ordL C fun oq w C => ?_)
        | (with_reducible refine ah_draw ?_; refine ok_drawL C fun w C => ?_)
        | (with_reducible refine ah_ldA ?_; first | refine w_ldA1 C ?_ | refine w_ldA2 C ?_)
        | (with_reducible refine ah_ldA3 ?_; refine w_ldA3 C ?_)
        | (with_reducible refine ah_ldA4 ?_; refine w_ldA4 C ?_)
        | (with_reducible refine ah_chA ?_; first | refine w_chA1 C ?_ | refine w_chA2 C ?_)
        | (with_reducible refine ah_chA3 ?_; refine w_chA3 C ?_)
        | (with_reducible refine ah_wrA ?_; refine w_wrA1 C fun w C => ?_)
      refine ok_callL C (made_spec (l := db (x.natAbs * 2 ^ n)) (C.arr (i := 0) rfl) (dg_dgs h256 _) _) (fun r w' h => h.1) ?_
      rintro t w2 ⟨_, ht⟩ C
      rw [v8_db, eV] at ht
      subst ht
      repeat first
        | with_reducible refine ok_assoc ?_
        | with_reducible refine ok_retB ?_
        | (with_reducible refine ah_newC ?_; refine ok_newL C fun bq w C => ?_)
        | (with_reducible refine ah_ord ?_; refine ok_ordL C fun oq w C => ?_)
        | (with_reducible refine ah_draw ?_; refine ok_drawL C fun w C => ?_)
        | (with_reducible refine ah_ldA ?_; first | refine w_ldA1 C ?_ | refine w_ldA2 C ?_)
        | (with_reducible refine ah_ldA3 ?_; refine w_ldA3 C ?_)
        | (with_reducible refine ah_ldA4 ?_; refine w_ldA4 C ?_)
        | (with_reducible refine ah_chA ?_; first | refine w_chA1 C ?_ | refine w_chA2 C ?_)
        | (with_reducible refine ah_chA3 ?_; refine w_chA3 C ?_)
        | (with_reducible refine ah_wrA ?_; refine w_wrA1 C fun w C => ?_)
      exact ok_ret.2 ⟨C.below, rfl⟩
  · refine ok_false (by simpa using h0) ?_
    obtain ⟨n, hn⟩ : ∃ n : Nat, k = -(n : Int) := ⟨(-k).toNat, by omega⟩
    have hn0 : n ≠ 0 := by omega
    subst hn
    have e6 : IntKind.wrap .i64 (0 - -(n : Int)) = (n : Int) := by rw [wrapI_in (by omega)]; omega
    rw [e6]
    have eS : shlZ x (-(n : Int)) = sv (lg x).1 (x.natAbs / 2 ^ n + (if (lg x).1 && decide (x.natAbs % 2 ^ n ≠ 0) then 1 else 0)) := by
      unfold shlZ; rw [if_neg h0, fdiv_pow, sv_lg]
      congr 2; omega
    rw [eS]
    have hp0 : 2 ^ n ≠ 0 := by have := Nat.two_pow_pos n; omega
    repeat first
      | with_reducible refine ok_assoc ?_
      | with_reducible refine ok_retB ?_
      | (with_reducible refine ah_newC ?_; refine ok_newL C fun bq w C => ?_)
      | (with_reducible refine ah_ord ?_; refine ok_ordL C fun oq w C => ?_)
      | (with_reducible refine ah_draw ?_; refine ok_drawL C fun w C => ?_)
      | (with_reducible refine ah_ldA ?_; first | refine w_ldA1 C ?_ | refine w_ldA2 C ?_)
      | (with_reducible refine ah_ldA3 ?_; refine w_ldA3 C ?_)
      | (with_reducible refine ah_ldA4 ?_; refine w_ldA4 C ?_)
      | (with_reducible refine ah_chA ?_; first | refine w_chA1 C ?_ | refine w_chA2 C ?_)
      | (with_reducible refine ah_chA3 ?_; refine w_chA3 C ?_)
      | (with_reducible refine ah_wrA ?_; refine w_wrA1 C fun w C => ?_)
    cases hbf : bef oq 2 5
    · refine ok_fB rfl ?_
      refine ok_assoc (ok_bnd.2 (ok_mono (power_spec (by omega) _) ?_))
      rintro p w1 ⟨l, D, dl, ll, vl'⟩
      replace C := C.join D
      simp only [List.cons_append, List.nil_append] at C
      repeat first
        | with_reducible refine ok_assoc ?_
        | with_reducible refine ok_retB ?_
        | (with_reducible refine ah_chA4 ?_; refine w_chA4 C ?_)
        | (with_reducible refine ah_newC ?_; refine ok_newL C fun bq w C => ?_)
        | (with_reducible refine ah_ord ?_; refine ok_ordL C fun oq w C => ?_)
        | (with_reducible refine ah_draw ?_; refine ok_drawL C fun w C => ?_)
        | (with_reducible refine ah_ldA ?_; first | refine w_ldA1 C ?_ | refine w_ldA2 C ?_)
        | (with_reducible refine ah_ldA3 ?_; refine w_ldA3 C ?_)
        | (with_reducible refine ah_ldA4 ?_; refine w_ldA4 C ?_)
        | (with_reducible refine ah_chA ?_; first | refine w_chA1 C ?_ | refine w_chA2 C ?_)
        | (with_reducible refine ah_chA3 ?_; refine w_chA3 C ?_)
        | (with_reducible refine ah_wrA ?_; refine w_wrA1 C fun w C => ?_)
      refine ok_toBytes C und9 slt61.under und5 (tb_max hx) fun vx w C hvx => ?_
      rw [bl_lg] at C
      repeat first
        | with_reducible refine ok_assoc ?_
        | with_reducible refine ok_retB ?_
        | (with_reducible refine ah_newC ?_; refine ok_newL C fun bq w C => ?_)
        | (with_reducible refine ah_ord ?_; refine ok_ordL C fun oq w C => ?_)
        | (with_reducible refine ah_draw ?_; refine ok_drawL C fun w C => ?_)
        | (with_reducible refine ah_ldA ?_; first | refine w_ldA1 C ?_ | refine w_ldA2 C ?_)
        | (with_reducible refine ah_ldA3 ?_; refine w_ldA3 C ?_)
        | (with_reducible refine ah_ldA4 ?_; refine w_ldA4 C ?_)
        | (with_reducible refine ah_chA ?_; first | refine w_chA1 C ?_ | refine w_chA2 C ?_)
        | (with_reducible refine ah_chA3 ?_; refine w_chA3 C ?_)
        | (with_reducible refine ah_wrA ?_; refine w_wrA1 C fun w C => ?_)
      refine ok_bnd.2 (ok_mono (divide_spec (a := db x.natAbs) (c := l) (C.arr (i := 0) rfl) (C.arr (i := 1) rfl) dx dl (by omega) (by omega) (by rw [vl']; exact hp0)) ?_)
      rintro ⟨q, r⟩ w1 D
      simp only at D
      rw [v8_db, vl'] at D
      replace C := C.join D
      clear D
      replace C := C.pick [0, 1, 4, 5] (by simp)
      have hrl : r.len = (db (x.natAbs % 2 ^ n)).length := by have := (C.get (i := 0) rfl).1; simpa using this
      have hz := db_zero (n := x.natAbs % 2 ^ n)
      have hdec : decide ((r.len : Int) > 0) = decide (x.natAbs % 2 ^ n ≠ 0) := by rw [decide_eq_decide]; omega
      have hql : (db (x.natAbs / 2 ^ n)).length ≤ 4096 := by
        have h1 := lt_dgs h256 x.natAbs
        have h2 : (db (x.natAbs / 2 ^ n)).length ≤ (dgs 256 x.natAbs).length := dgs_length h256 (Nat.lt_of_le_of_lt (Nat.div_le_self _ _) h1)
        exact Nat.le_trans h2 lx
      repeat first
        | with_reducible refine ok_assoc ?_
        | with_reducible refine ok_retB ?_
        | (with_reducible refine ah_newC ?_; refine ok_newL C fun bq w C => ?_)
        | (with_reducible refine ah_ord ?_; refine ok_ordL C fun oq w C => ?_)
        | (with_reducible refine ah_draw ?_; refine ok_drawL C fun w C => ?_)
        | (with_reducible refine ah_ldA ?_; first | refine w_ldA1 C ?_ | refine w_ldA2 C ?_)
        | (with_reducible refine ah_ldA3 ?_; refine w_ldA3 C ?_)
        | (with_reducible refine ah_ldA4 ?_; refine w_ldA4 C ?_)
        | (with_reducible refine ah_chA ?_; first | refine w_chA1 C ?_ | refine w_chA2 C ?_)
        | (with_reducible refine ah_chA3 ?_; refine w_chA3 C ?_)
        | (with_reducible refine ah_wrA ?_; refine w_wrA1 C fun w C => ?_)
      rw [hdec]
      by_cases hc : ((lg x).1 && decide (x.natAbs % 2 ^ n ≠ 0)) = true
      · rw [if_pos hc]
        refine ok_tB (by rw [Bool.and_eq_true] at hc; rw [hc.1, hc.2]; rfl) ?_
        refine ok_assoc (ok_bnd.2 (ok_buildL1 slt61 _ rfl ?_))
        replace C := C.buildN (e := 5) (vs := nums .u8 [(1 : Int)]) 1 rfl (by decide)
        refine ok_assoc (ok_callL C (plus_spec (y := ⟨some ⟨w1.heap.size, 0, none⟩, 1, 1⟩) (a := db (x.natAbs / 2 ^ n)) (c := [(1 : Int)]) (C.arr (i := 2) rfl) (C.arr (i := 0) (xs := nums .u8 [(1 : Int)]) rfl) (dg_dgs h256 _) (Dg.cons Dg.nil (by decide) (by decide)) (by omega) (by decide)) (fun r w' h => h.1) ?_)
        rintro r2 w6 ⟨hB, hr2⟩ _
        have e2 : v8 (db (x.natAbs / 2 ^ n)) + v8 [(1 : Int)] = x.natAbs / 2 ^ n + 1 := by rw [v8_db]; rfl
        rw [e2] at hr2
        replace C := C.addOwn hB hr2
        repeat first
          | with_reducible refine ok_assoc ?_
          | with_reducible refine ok_retB ?_
          | (with_reducible refine ah_newC ?_; refine ok_newL C fun bq w C => ?_)
          | (with_reducible refine ah_ord ?_; refine ok_ordL C fun oq w C => ?_)
          | (with_reducible refine ah_draw ?_; refine ok_drawL C fun w C => ?_)
          | (with_reducible refine ah_ldA ?_; first | refine w_ldA1 C ?_ | refine w_ldA2 C ?_)
          | (with_reducible refine ah_ldA3 ?_; refine w_ldA3 C ?_)
          | (with_reducible refine ah_ldA4 ?_; refine w_ldA4 C ?_)
          | (with_reducible refine ah_chA ?_; first | refine w_chA1 C ?_ | refine w_chA2 C ?_)
          | (with_reducible refine ah_chA3 ?_; refine w_chA3 C ?_)
          | (with_reducible refine ah_wrA ?_; refine w_wrA1 C fun w C => ?_)
        refine ok_callL C (made_spec (l := db (x.natAbs / 2 ^ n + 1)) (C.arr (i := 0) rfl) (dg_dgs h256 _) _) (fun r w' h => h.1) ?_
        rintro t w2 ⟨_, ht⟩ C
        rw [v8_db] at ht
        subst ht
        repeat first
          | with_reducible refine ok_assoc ?_
          | with_reducible refine ok_retB ?_
          | (with_reducible refine ah_newC ?_; refine ok_newL C fun bq w C => ?_)
          | (with_reducible refine ah_ord ?_; refine ok_ordL C fun oq w C => ?_)
          | (with_reducible refine ah_draw ?_; refine ok_drawL C fun w C => ?_)
          | (with_reducible refine ah_ldA ?_; first | refine w_ldA1 C ?_ | refine w_ldA2 C ?_)
          | (with_reducible refine ah_ldA3 ?_; refine w_ldA3 C ?_)
          | (with_reducible refine ah_ldA4 ?_; refine w_ldA4 C ?_)
          | (with_reducible refine ah_chA ?_; first | refine w_chA1 C ?_ | refine w_chA2 C ?_)
          | (with_reducible refine ah_chA3 ?_; refine w_chA3 C ?_)
          | (with_reducible refine ah_wrA ?_; refine w_wrA1 C fun w C => ?_)
        exact ok_ret.2 ⟨C.below, rfl⟩
      · rw [if_neg hc]
        rw [Bool.not_eq_true] at hc
        refine ok_fB (by rw [← hc]; cases (lg x).1 <;> rfl) ?_
        repeat first
          | with_reducible refine ok_assoc ?_
          | with_reducible refine ok_retB ?_
          | (with_reducible refine ah_newC ?_; refine ok_newL C fun bq w C => ?_)
          | (with_reducible refine ah_ord ?_; refine ok_ordL C fun oq w C => ?_)
          | (with_reducible refine ah_draw ?_; refine ok_drawL C fun w C => ?_)
          | (with_reducible refine ah_ldA ?_; first | refine w_ldA1 C ?_ | refine w_ldA2 C ?_)
          | (with_reducible refine ah_ldA3 ?_; refine w_ldA3 C ?_)
          | (with_reducible refine ah_ldA4 ?_; refine w_ldA4 C ?_)
          | (with_reducible refine ah_chA ?_; first | refine w_chA1 C ?_ | refine w_chA2 C ?_)
          | (with_reducible refine ah_chA3 ?_; refine w_chA3 C ?_)
          | (with_reducible refine ah_wrA ?_; refine w_wrA1 C fun w C => ?_)
        refine ok_callL C (made_spec (l := db (x.natAbs / 2 ^ n)) (C.arr (i := 1) rfl) (dg_dgs h256 _) _) (fun r w' h => h.1) ?_
        rintro t w2 ⟨_, ht⟩ C
        rw [v8_db] at ht
        subst ht
        repeat first
          | with_reducible refine ok_assoc ?_
          | with_reducible refine ok_retB ?_
          | (with_reducible refine ah_newC ?_; refine ok_newL C fun bq w C => ?_)
          | (with_reducible refine ah_ord ?_; refine ok_ordL C fun oq w C => ?_)
          | (with_reducible refine ah_draw ?_; refine ok_drawL C fun w C => ?_)
          | (with_reducible refine ah_ldA ?_; first | refine w_ldA1 C ?_ | refine w_ldA2 C ?_)
          | (with_reducible refine ah_ldA3 ?_; refine w_ldA3 C ?_)
          | (with_reducible refine ah_ldA4 ?_; refine w_ldA4 C ?_)
          | (with_reducible refine ah_chA ?_; first | refine w_chA1 C ?_ | refine w_chA2 C ?_)
          | (with_reducible refine ah_chA3 ?_; refine w_chA3 C ?_)
          | (with_reducible refine ah_wrA ?_; refine w_wrA1 C fun w C => ?_)
        exact ok_ret.2 ⟨C.below, rfl⟩
    · refine ok_tB rfl ?_
      refine ok_assoc (ok_toBytes C und9 slt61.under und5 (tb_max hx) fun vx w C hvx => ?_)
      rw [bl_lg] at C
      repeat first
        | with_reducible refine ok_assoc ?_
        | with_reducible refine ok_retB ?_
        | (with_reducible refine ah_newC ?_; refine ok_newL C fun bq w C => ?_)
        | (with_reducible refine ah_ord ?_; refine ok_ordL C fun oq w C => ?_)
        | (with_reducible refine ah_draw ?_; refine ok_drawL C fun w C => ?_)
        | (with_reducible refine ah_ldA ?_; first | refine w_ldA1 C ?_ | refine w_ldA2 C ?_)
        | (with_reducible refine ah_ldA3 ?_; refine w_ldA3 C ?_)
        | (with_reducible refine ah_ldA4 ?_; refine w_ldA4 C ?_)
        | (with_reducible refine ah_chA ?_; first | refine w_chA1 C ?_ | refine w_chA2 C ?_)
        | (with_reducible refine ah_chA3 ?_; refine w_chA3 C ?_)
        | (with_reducible refine ah_wrA ?_; refine w_wrA1 C fun w C => ?_)
      refine ok_bnd.2 (ok_mono (power_spec (by omega) _) ?_)
      rintro p w1 ⟨l, D, dl, ll, vl'⟩
      replace C := C.join D
      simp only [List.cons_append, List.nil_append] at C
      repeat first
        | with_reducible refine ok_assoc ?_
        | with_reducible refine ok_retB ?_
        | (with_reducible refine ah_newC ?_; refine ok_newL C fun bq w C => ?_)
        | (with_reducible refine ah_ord ?_; refine ok_ordL C fun oq w C => ?_)
        | (with_reducible refine ah_draw ?_; refine ok_drawL C fun w C => ?_)
        | (with_reducible refine ah_ldA ?_; first | refine w_ldA1 C ?_ | refine w_ldA2 C ?_)
        | (with_reducible refine ah_ldA3 ?_; refine w_ldA3 C ?_)
        | (with_reducible refine ah_ldA4 ?_; refine w_ldA4 C ?_)
        | (with_reducible refine ah_chA ?_; first | refine w_chA1 C ?_ | refine w_chA2 C ?_)
        | (with_reducible refine ah_chA3 ?_; refine w_chA3 C ?_)
        | (with_reducible refine ah_wrA ?_; refine w_wrA1 C fun w C => ?_)
      refine ok_bnd.2 (ok_mono (divide_spec (a := db x.natAbs) (c := l) (C.arr (i := 1) rfl) (C.arr (i := 0) rfl) dx dl (by omega) (by omega) (by rw [vl']; exact hp0)) ?_)
      rintro ⟨q, r⟩ w1 D
      simp only at D
      rw [v8_db, vl'] at D
      replace C := C.join D
      clear D
      replace C := C.pick [0, 1, 4, 5] (by simp)
      have hrl : r.len = (db (x.natAbs % 2 ^ n)).length := by have := (C.get (i := 0) rfl).1; simpa using this
      have hz := db_zero (n := x.natAbs % 2 ^ n)
      have hdec : decide ((r.len : Int) > 0) = decide (x.natAbs % 2 ^ n ≠ 0) := by rw [decide_eq_decide]; omega
      have hql : (db (x.natAbs / 2 ^ n)).length ≤ 4096 := by
        have h1 := lt_dgs h256 x.natAbs
        have h2 : (db (x.natAbs / 2 ^ n)).length ≤ (dgs 256 x.natAbs).length := dgs_length h256 (Nat.lt_of_le_of_lt (Nat.div_le_self _ _) h1)
        exact Nat.le_trans h2 lx
      repeat first
        | with_reducible refine ok_assoc ?_
        | with_reducible refine ok_retB ?_
        | (with_reducible refine ah_newC ?_; refine ok_newL C fun bq w C => ?_)
        | (with_reducible refine ah_ord ?_; refine ok_ordL C fun oq w C => ?_)
        | (with_reducible refine ah_draw ?_; refine ok_drawL C fun w C => ?_)
        | (with_reducible refine ah_ldA ?_; first | refine w_ldA1 C ?_ | refine w_ldA2 C ?_)
        | (with_reducible refine ah_ldA3 ?_; refine w_ldA3 C ?_)
        | (with_reducible refine ah_ldA4 ?_; refine w_ldA4 C ?_)
        | (with_reducible refine ah_chA ?_; first | refine w_chA1 C ?_ | refine w_chA2 C ?_)
        | (with_reducible refine ah_chA3 ?_; refine w_chA3 C ?_)
        | (with_reducible refine ah_wrA ?_; refine w_wrA1 C fun w C => ?_)
      rw [hdec]
      by_cases hc : ((lg x).1 && decide (x.natAbs % 2 ^ n ≠ 0)) = true
      · rw [if_pos hc]
        refine ok_tB (by rw [Bool.and_eq_true] at hc; rw [hc.1, hc.2]; rfl) ?_
        refine ok_assoc (ok_bnd.2 (ok_buildL1 slt61 _ rfl ?_))
        replace C := C.buildN (e := 5) (vs := nums .u8 [(1 : Int)]) 1 rfl (by decide)
        refine ok_assoc (ok_callL C (plus_spec (y := ⟨some ⟨w1.heap.size, 0, none⟩, 1, 1⟩) (a := db (x.natAbs / 2 ^ n)) (c := [(1 : Int)]) (C.arr (i := 2) rfl) (C.arr (i := 0) (xs := nums .u8 [(1 : Int)]) rfl) (dg_dgs h256 _) (Dg.cons Dg.nil (by decide) (by decide)) (by omega) (by decide)) (fun r w' h => h.1) ?_)
        rintro r2 w6 ⟨hB, hr2⟩ _
        have e2 : v8 (db (x.natAbs / 2 ^ n)) + v8 [(1 : Int)] = x.natAbs / 2 ^ n + 1 := by rw [v8_db]; rfl
        rw [e2] at hr2
        replace C := C.addOwn hB hr2
        repeat first
          | with_reducible refine ok_assoc ?_
          | with_reducible refine ok_retB ?_
          | (with_reducible refine ah_newC ?_; refine ok_newL C fun bq w C => ?_)
          | (with_reducible refine ah_ord ?_; refine ok_ordL C fun oq w C => ?_)
          | (with_reducible refine ah_draw ?_; refine ok_drawL C fun w C => ?_)
          | (with_reducible refine ah_ldA ?_; first | refine w_ldA1 C ?_ | refine w_ldA2 C ?_)
          | (with_reducible refine ah_ldA3 ?_; refine w_ldA3 C ?_)
          | (with_reducible refine ah_ldA4 ?_; refine w_ldA4 C ?_)
          | (with_reducible refine ah_chA ?_; first | refine w_chA1 C ?_ | refine w_chA2 C ?_)
          | (with_reducible refine ah_chA3 ?_; refine w_chA3 C ?_)
          | (with_reducible refine ah_wrA ?_; refine w_wrA1 C fun w C => ?_)
        refine ok_callL C (made_spec (l := db (x.natAbs / 2 ^ n + 1)) (C.arr (i := 0) rfl) (dg_dgs h256 _) _) (fun r w' h => h.1) ?_
        rintro t w2 ⟨_, ht⟩ C
        rw [v8_db] at ht
        subst ht
        repeat first
          | with_reducible refine ok_assoc ?_
          | with_reducible refine ok_retB ?_
          | (with_reducible refine ah_newC ?_; refine ok_newL C fun bq w C => ?_)
          | (with_reducible refine ah_ord ?_; refine ok_ordL C fun oq w C => ?_)
          | (with_reducible refine ah_draw ?_; refine ok_drawL C fun w C => ?_)
          | (with_reducible refine ah_ldA ?_; first | refine w_ldA1 C ?_ | refine w_ldA2 C ?_)
          | (with_reducible refine ah_ldA3 ?_; refine w_ldA3 C ?_)
          | (with_reducible refine ah_ldA4 ?_; refine w_ldA4 C ?_)
          | (with_reducible refine ah_chA ?_; first | refine w_chA1 C ?_ | refine w_chA2 C ?_)
          | (with_reducible refine ah_chA3 ?_; refine w_chA3 C ?_)
          | (with_reducible refine ah_wrA ?_; refine w_wrA1 C fun w C => ?_)
        exact ok_ret.2 ⟨C.below, rfl⟩
      · rw [if_neg hc]
        rw [Bool.not_eq_true] at hc
        refine ok_fB (by rw [← hc]; cases (lg x).1 <;> rfl) ?_
        repeat first
          | with_reducible refine ok_assoc ?_
          | with_reducible refine ok_retB ?_
          | (with_reducible refine ah_newC ?_; refine ok_newL C fun bq w C => ?_)
          | (with_reducible refine ah_ord ?_; refine ok_ordL C fun oq w C => ?_)
          | (with_reducible refine ah_draw ?_; refine ok_drawL C fun w C => ?_)
          | (with_reducible refine ah_ldA ?_; first | refine w_ldA1 C ?_ | refine w_ldA2 C ?_)
          | (with_reducible refine ah_ldA3 ?_; refine w_ldA3 C ?_)
          | (with_reducible refine ah_ldA4 ?_; refine w_ldA4 C ?_)
          | (with_reducible refine ah_chA ?_; first | refine w_chA1 C ?_ | refine w_chA2 C ?_)
          | (with_reducible refine ah_chA3 ?_; refine w_chA3 C ?_)
          | (with_reducible refine ah_wrA ?_; refine w_wrA1 C fun w C => ?_)
        refine ok_callL C (made_spec (l := db (x.natAbs / 2 ^ n)) (C.arr (i := 1) rfl) (dg_dgs h256 _) _) (fun r w' h => h.1) ?_
        rintro t w2 ⟨_, ht⟩ C
        rw [v8_db] at ht
        subst ht
        repeat first
          | with_reducible refine ok_assoc ?_
          | with_reducible refine ok_retB ?_
          | (with_reducible refine ah_newC ?_; refine ok_newL C fun bq w C => ?_)
          | (with_reducible refine ah_ord ?_; refine ok_ordL C fun oq w C => ?_)
          | (with_reducible refine ah_draw ?_; refine ok_drawL C fun w C => ?_)
          | (with_reducible refine ah_ldA ?_; first | refine w_ldA1 C ?_ | refine w_ldA2 C ?_)
          | (with_reducible refine ah_ldA3 ?_; refine w_ldA3 C ?_)
          | (with_reducible refine ah_ldA4 ?_; refine w_ldA4 C ?_)
          | (with_reducible refine ah_chA ?_; first | refine w_chA1 C ?_ | refine w_chA2 C ?_)
          | (with_reducible refine ah_chA3 ?_; refine w_chA3 C ?_)
          | (with_reducible refine ah_wrA ?_; refine w_wrA1 C fun w C => ?_)
        exact ok_ret.2 ⟨C.below, rfl⟩
theorem rbits_is (a : Lg) : Is (f33_palaverref09_Bits a) (bitsR a) := by
  intro wb
  unfold f33_palaverref09_Bits bitsR
  have C := Cx.nil No wb
  repeat first
    | with_reducible refine ok_assoc ?_
    | with_reducible refine ok_retB ?_
    | (with_reducible refine ah_newC ?_; refine ok_newL C fun bq w C => ?_)
    | (with_reducible refine ah_ord ?_; refine ok_ordL C fun oq w C => ?_)
    | (with_reducible refine ah_draw ?_; refine ok_drawL C fun w C => ?_)
    | (with_reducible refine ah_ldA ?_; first | refine w_ldA1 C ?_ | refine w_ldA2 C ?_)
    | (with_reducible refine ah_ldA3 ?_; refine w_ldA3 C ?_)
    | (with_reducible refine ah_ldA4 ?_; refine w_ldA4 C ?_)
    | (with_reducible refine ah_chA ?_; first | refine w_chA1 C ?_ | refine w_chA2 C ?_)
    | (with_reducible refine ah_chA3 ?_; refine w_chA3 C ?_)
    | (with_reducible refine ah_wrA ?_; refine w_wrA1 C fun w C => ?_)
  by_cases hs : a.2.size = 0
  · refine ok_tB (by rw [beq_iff_eq]; omega) ?_
    repeat first
      | with_reducible refine ok_assoc ?_
      | with_reducible refine ok_retB ?_
      | (with_reducible refine ah_newC ?_; refine ok_newL C fun bq w C => ?_)
      | (with_reducible refine ah_ord ?_; refine ok_ordL C fun oq w C => ?_)
      | (with_reducible refine ah_draw ?_; refine ok_drawL C fun w C => ?_)
      | (with_reducible refine ah_ldA ?_; first | refine w_ldA1 C ?_ | refine w_ldA2 C ?_)
      | (with_reducible refine ah_ldA3 ?_; refine w_ldA3 C ?_)
      | (with_reducible refine ah_ldA4 ?_; refine w_ldA4 C ?_)
      | (with_reducible refine ah_chA ?_; first | refine w_chA1 C ?_ | refine w_chA2 C ?_)
      | (with_reducible refine ah_chA3 ?_; refine w_chA3 C ?_)
      | (with_reducible refine ah_wrA ?_; refine w_wrA1 C fun w C => ?_)
    refine ok_true rfl (ok_ret.2 ⟨C.below, ?_⟩)
    split
    · have : nv a = 0 := by
        unfold nv
        rw [size_zero hs, bl_nil]; rfl
      rw [this]; rfl
    · rfl
  refine ok_fB (by rw [beq_eq_false_iff_ne]; omega) ?_
  repeat first
    | with_reducible refine ok_assoc ?_
    | with_reducible refine ok_retB ?_
    | with_reducible refine ok_is C (rcheck_is _) fun w C => ?_
    | (with_reducible refine ah_newC ?_; refine ok_newL C fun bq w C => ?_)
    | (with_reducible refine ah_ord ?_; refine ok_ordL C fun oq w C => ?_)
    | (with_reducible refine ah_draw ?_; refine ok_drawL C fun w C => ?_)
    | (with_reducible refine ah_ldA ?_; first | refine w_ldA1 C ?_ | refine w_ldA2 C ?_)
    | (with_reducible refine ah_ldA3 ?_; refine w_ldA3 C ?_)
    | (with_reducible refine ah_ldA4 ?_; refine w_ldA4 C ?_)
    | (with_reducible refine ah_chA ?_; first | refine w_chA1 C ?_ | refine w_chA2 C ?_)
    | (with_reducible refine ah_chA3 ?_; refine w_chA3 C ?_)
    | (with_reducible refine ah_wrA ?_; refine w_wrA1 C fun w C => ?_)
  by_cases ha : ck a = 0
  rotate_left
  · rw [if_neg ha]
    exact ok_true (by simpa using ha) (ok_ret.2 ⟨C.below, rfl⟩)
  rw [if_pos ha]
  refine ok_false (by simpa using ha) ?_
  obtain ⟨x, rfl, hx⟩ := ck_ex ha
  have lx := tb_len hx
  rw [lg_size] at hs ⊢
  rw [nv_lg]
  repeat first
    | with_reducible refine ok_assoc ?_
    | with_reducible refine ok_retB ?_
    | (with_reducible refine ah_newC ?_; refine ok_newL C fun bq w C => ?_)
    | (with_reducible refine ah_ord ?_; refine ok_ordL C fun oq w C => ?_)
    | (with_reducible refine ah_draw ?_; refine ok_drawL C fun w C => ?_)
    | (with_reducible refine ah_ldA ?_; first | refine w_ldA1 C ?_ | refine w_ldA2 C ?_)
    | (with_reducible refine ah_ldA3 ?_; refine w_ldA3 C ?_)
    | (with_reducible refine ah_ldA4 ?_; refine w_ldA4 C ?_)
    | (with_reducible refine ah_chA ?_; first | refine w_chA1 C ?_ | refine w_chA2 C ?_)
    | (with_reducible refine ah_chA3 ?_; refine w_chA3 C ?_)
    | (with_reducible refine ah_wrA ?_; refine w_wrA1 C fun w C => ?_)
  obtain ⟨m, hm⟩ : ∃ m, (db x.natAbs).length = m + 1 := ⟨(db x.natAbs).length - 1, by omega⟩
  have hd := dgs_get h256 (n := x.natAbs) (i := m) (by unfold db at hm; omega)
  have hq : x.natAbs / 256 ^ m < 256 := by
    have h1 := lt_dgs h256 x.natAbs
    rw [show (dgs 256 x.natAbs).length = m + 1 from hm, Nat.pow_succ, Nat.mul_comm] at h1
    exact Nat.div_lt_of_lt_mul (by rw [Nat.mul_comm]; exact h1)
  rw [Nat.mod_eq_of_lt hq] at hd
  have hq0 : x.natAbs / 256 ^ m ≠ 0 := by
    intro h0
    have hc : (db x.natAbs).getLast? ≠ some 0 := cn_dgs h256 x.natAbs
    rw [List.getLast?_eq_getElem?, hm, Nat.add_sub_cancel, show (db x.natAbs)[m]? = _ from hd, h0] at hc
    exact hc rfl
  have e1 : IntKind.wrap .i64 (((db x.natAbs).length : Int) - 1) = (m : Int) := by rw [wrapI_in (by omega)]; omega
  rw [e1]
  refine ok_ixB (by omega) (by rw [bl_lg, Int.toNat_natCast]; exact hd) ?_
  have e2 : IntKind.wrap .i64 (8 * (m : Int)) = ((8 * m : Nat) : Int) := by rw [wrapI_in (by omega)]; omega
  have htot : bitN x.natAbs = bitN (x.natAbs / 256 ^ m) + 8 * m := by
    refine (bl_unique (bl_shift (s := 8 * m) ?_ hq0 (bitN_bl _))).symm
    rw [Nat.pow_mul]
  have hb8 : bitN (x.natAbs / 256 ^ m) ≤ 8 := by
    unfold bitN
    rw [if_neg hq0]
    have := (Nat.log2_lt (k := 8) hq0).2 hq
    omega
  generalize x.natAbs / 256 ^ m = T at *
  rw [e2, wrapI_in (n := (T : Int)) (by omega), htot]
  refine ok_loopN (fun N (q : Int × Int) w' => Below wb.heap.size wb w' ∧ q.2 = N ∧ N < 256 ∧ ∃ k : Nat, q.1 = k ∧ k ≤ 8 * m + 8 ∧ k + bitN N = bitN T + 8 * m)
    ?_ T _ _ ⟨C.below, rfl, hq, 8 * m, rfl, by omega, by omega⟩
  rintro N ⟨k', q⟩ w1 ⟨hB, rfl, hN, k, rfl, hk, hkN⟩
  simp only
  by_cases hN0 : N = 0
  · subst hN0
    refine ok_false (by simp) (ok_ret.2 ⟨hB, ?_⟩)
    have : bitN 0 = 0 := rfl
    omega
  · refine ok_true (by simp; omega) (ok_ret.2 ⟨N / 2, by omega, hB, ?_, by omega, k + 1, ?_, ?_, ?_⟩)
    · show IntKind.wrap .i64 (Int.tdiv (N : Int) 2) = _
      rw [Int.tdiv_eq_ediv_of_nonneg (by omega), wrapI_in (by omega)]; omega
    · show IntKind.wrap .i64 ((k : Int) + 1) = _
      rw [wrapI_in (by omega)]; simp
    · have : 1 ≤ bitN N := by unfold bitN; rw [if_neg hN0]; omega
      omega
    · have : bitN N = bitN (N / 2) + 1 := by
        by_cases h2 : N / 2 = 0
        · have : N = 1 := by omega
          subst this
          rfl
        · exact (bl_unique (bl_shift (s := 1) (by rw [Nat.pow_one]) h2 (bitN_bl _))).symm
      omega
theorem lbits_is (a b : Lg) {k : Int} (hk : -9223372036854775808 ≤ k ∧ k ≤ 9223372036854775807) : Is (f6_palaverlaw09_LargeBits a b k) true := by
  intro wb
  unfold f6_palaverlaw09_LargeBits
  obtain ⟨rf, hf⟩ := far_ex2 a b
  have C := Cx.nil No wb
  repeat first
    | with_reducible refine ok_assoc ?_
    | with_reducible refine ok_retB ?_
    | with_reducible refine ok_is C (works_is) fun w C => ?_
    | with_reducible refine ok_is C (hf) fun w C => ?_
    | (with_reducible refine ah_newC ?_; refine ok_newL C fun bq w C => ?_)
    | (with_reducible refine ah_ord ?_; refine ok_ordL C fun oq w C => ?_)
    | (with_reducible refine ah_draw ?_; refine ok_drawL C fun w C => ?_)
    | (with_reducible refine ah_ldA ?_; first | refine w_ldA1 C ?_ | refine w_ldA2 C ?_)
    | (with_reducible refine ah_ldA3 ?_; refine w_ldA3 C ?_)
    | (with_reducible refine ah_ldA4 ?_; refine w_ldA4 C ?_)
    | (with_reducible refine ah_chA ?_; first | refine w_chA1 C ?_ | refine w_chA2 C ?_)
    | (with_reducible refine ah_chA3 ?_; refine w_chA3 C ?_)
    | (with_reducible refine ah_wrA ?_; refine w_wrA1 C fun w C => ?_)
  cases rf
  rotate_left
  · exact ok_true rfl (ok_ret.2 ⟨C.below, rfl⟩)
  refine ok_false rfl ?_
  repeat first
    | with_reducible refine ok_assoc ?_
    | with_reducible refine ok_retB ?_
    | with_reducible refine ok_is C (and_is _ _) fun w C => ?_
    | with_reducible refine ok_is C (rAnd_is _ _) fun w C => ?_
    | with_reducible refine ok_is C (or_is _ _) fun w C => ?_
    | with_reducible refine ok_is C (rOr_is _ _) fun w C => ?_
    | with_reducible refine ok_is C (xor_is _ _) fun w C => ?_
    | with_reducible refine ok_is C (rXor_is _ _) fun w C => ?_
    | with_reducible refine ok_is C (shift_is _ hk) fun w C => ?_
    | with_reducible refine ok_is C (rshift_is _ hk) fun w C => ?_
    | with_reducible refine ok_is C (bits_is _) fun w C => ?_
    | with_reducible refine ok_is C (rbits_is _) fun w C => ?_
    | (with_reducible refine ah_newC ?_; refine ok_newL C fun bq w C => ?_)
    | (with_reducible refine ah_ord ?_; refine ok_ordL C fun oq w C => ?_)
    | (with_reducible refine ah_draw ?_; refine ok_drawL C fun w C => ?_)
    | (with_reducible refine ah_ldA ?_; first | refine w_ldA1 C ?_ | refine w_ldA2 C ?_)
    | (with_reducible refine ah_ldA3 ?_; refine w_ldA3 C ?_)
    | (with_reducible refine ah_ldA4 ?_; refine w_ldA4 C ?_)
    | (with_reducible refine ah_chA ?_; first | refine w_chA1 C ?_ | refine w_chA2 C ?_)
    | (with_reducible refine ah_chA3 ?_; refine w_chA3 C ?_)
    | (with_reducible refine ah_wrA ?_; refine w_wrA1 C fun w C => ?_)
  refine ok_tB (by simp [strEq_eq]) ?_
  repeat first
    | with_reducible refine ok_assoc ?_
    | with_reducible refine ok_retB ?_
    | (with_reducible refine ah_newC ?_; refine ok_newL C fun bq w C => ?_)
    | (with_reducible refine ah_ord ?_; refine ok_ordL C fun oq w C => ?_)
    | (with_reducible refine ah_draw ?_; refine ok_drawL C fun w C => ?_)
    | (with_reducible refine ah_ldA ?_; first | refine w_ldA1 C ?_ | refine w_ldA2 C ?_)
    | (with_reducible refine ah_ldA3 ?_; refine w_ldA3 C ?_)
    | (with_reducible refine ah_ldA4 ?_; refine w_ldA4 C ?_)
    | (with_reducible refine ah_chA ?_; first | refine w_chA1 C ?_ | refine w_chA2 C ?_)
    | (with_reducible refine ah_chA3 ?_; refine w_chA3 C ?_)
    | (with_reducible refine ah_wrA ?_; refine w_wrA1 C fun w C => ?_)
  refine ok_ret.2 ⟨C.below, ?_⟩
  simp [strEq_eq]
end Go.Proofs.Ytoekfjgikicclaa
