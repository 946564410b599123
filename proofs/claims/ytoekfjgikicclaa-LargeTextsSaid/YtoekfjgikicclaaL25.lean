/-
  Part of the proof: L25. It states what the functions do; no further condition.
-/
import Derived.Test.YtoekfjgikicclaaL24
set_option linter.unusedVariables false
set_option linter.unusedSimpArgs false
namespace Go.Proofs.Ytoekfjgikicclaa
set_option linter.unusedVariables false
open Go.Sh Go.RowKit
set_option maxRecDepth 100000
/-! ### Exported: Gcd, Bits, Shift -/
def gcdR (a b : Lg) : Lg × Int := if ck2 a b = 0 then (lg (Nat.gcd (nv a) (nv b)), 0) else (zr, ck2 a b)
theorem gcd_le_max (n m : Nat) : Nat.gcd n m ≤ n ∨ Nat.gcd n m ≤ m := by
  rcases Nat.eq_zero_or_pos n with rfl | h
  · right; rw [Nat.gcd_zero_left]; exact Nat.le_refl _
  · left; exact Nat.gcd_le_left m h
theorem gcd_is (a c : Lg) : Is (f18_largeint_Gcd a c) (gcdR a c) := by
  intro wb
  unfold f18_largeint_Gcd gcdR
  have C := Cx.nil No wb
  repeat first
    | with_reducible refine ok_assoc ?_
    | with_reducible refine ok_retB ?_
    | (with_reducible refine ah_newC ?_; refine ok_newL C fun bq w C => ?_)
    | (with_reducible refine ah_ord ?_; refine ok_ordL C fun oq w C => ?_)
    | (with_reducible refine ah_draw ?_; refine ok_drawL C fun w C => ?_)
    | (with_reducible refine ah_ldA ?_; first | refine w_ldA1 C ?_ | refine w_ldA2 C ?_)
    | (with_reducible refine ah_ldA3 ?_; refine w_ldA3 C ?_)
    | (with_reducible refine ah_ldA4 ?_; refine w_ldA4 C ?_)
    | (with_reducible refine ah_ldN ?_; first | refine w_ldN1 C ?_ | refine w_ldN2 C ?_)
    | (with_reducible refine ah_ldN3 ?_; refine w_ldN3 C ?_)
    | (with_reducible refine ah_ldN4 ?_; refine w_ldN4 C ?_)
    | (with_reducible refine ah_chA ?_; first | refine w_chA1 C ?_ | refine w_chA2 C ?_)
    | (with_reducible refine ah_chA3 ?_; refine w_chA3 C ?_)
    | (with_reducible refine ah_chN ?_; first | refine w_chN1 C ?_ | refine w_chN2 C ?_)
    | (with_reducible refine ah_chN4 ?_; refine w_chN4 C ?_)
    | (with_reducible refine ah_wrA ?_; refine w_wrA1 C fun w C => ?_)
    | (with_reducible refine ah_wrN ?_; refine w_wrN1 C fun w C => ?_)
    | (with_reducible refine ah_wrN2 ?_; refine w_wrN2 C fun w C => ?_)
    | (with_reducible refine ah_wrN3 ?_; refine w_wrN3 C fun w C => ?_)
  obtain ⟨b3, hb3⟩ : ∃ b3, b3 = bq := ⟨bq, rfl⟩
  subst hb3
  refine ok_bnd.2 (ok_mono (two_spec _ _ _) ?_)
  rintro r w1 H
  by_cases h : ck2 a c = 0
  · obtain ⟨D, hs, ht, he, hl1, hl2⟩ := two_C C h H
    replace C := D
    rw [if_pos h]
    repeat first
      | with_reducible refine ok_assoc ?_
      | with_reducible refine ok_retB ?_
      | (with_reducible refine ah_newC ?_; refine ok_newL C fun bq w C => ?_)
      | (with_reducible refine ah_ord ?_; refine ok_ordL C fun oq w C => ?_)
      | (with_reducible refine ah_draw ?_; refine ok_drawL C fun w C => ?_)
      | (with_reducible refine ah_ldA ?_; first | refine w_ldA1 C ?_ | refine w_ldA2 C ?_)
      | (with_reducible refine ah_ldA3 ?_; refine w_ldA3 C ?_)
      | (with_reducible refine ah_ldA4 ?_; refine w_ldA4 C ?_)
      | (with_reducible refine ah_ldN ?_; first | refine w_ldN1 C ?_ | refine w_ldN2 C ?_)
      | (with_reducible refine ah_ldN3 ?_; refine w_ldN3 C ?_)
      | (with_reducible refine ah_ldN4 ?_; refine w_ldN4 C ?_)
      | (with_reducible refine ah_chA ?_; first | refine w_chA1 C ?_ | refine w_chA2 C ?_)
      | (with_reducible refine ah_chA3 ?_; refine w_chA3 C ?_)
      | (with_reducible refine ah_chN ?_; first | refine w_chN1 C ?_ | refine w_chN2 C ?_)
      | (with_reducible refine ah_chN4 ?_; refine w_chN4 C ?_)
      | (with_reducible refine ah_wrA ?_; refine w_wrA1 C fun w C => ?_)
      | (with_reducible refine ah_wrN ?_; refine w_wrN1 C fun w C => ?_)
      | (with_reducible refine ah_wrN2 ?_; refine w_wrN2 C fun w C => ?_)
      | (with_reducible refine ah_wrN3 ?_; refine w_wrN3 C fun w C => ?_)
    refine ok_false (by rw [he]; rfl) ?_
    repeat first
      | with_reducible refine ok_assoc ?_
      | with_reducible refine ok_retB ?_
      | (with_reducible refine ah_newC ?_; refine ok_newL C fun bq w C => ?_)
      | (with_reducible refine ah_ord ?_; refine ok_ordL C fun oq w C => ?_)
      | (with_reducible refine ah_draw ?_; refine ok_drawL C fun w C => ?_)
      | (with_reducible refine ah_ldA ?_; first | refine w_ldA1 C ?_ | refine w_ldA2 C ?_)
      | (with_reducible refine ah_ldA3 ?_; refine w_ldA3 C ?_)
      | (with_reducible refine ah_ldA4 ?_; refine w_ldA4 C ?_)
      | (with_reducible refine ah_ldN ?_; first | refine w_ldN1 C ?_ | refine w_ldN2 C ?_)
      | (with_reducible refine ah_ldN3 ?_; refine w_ldN3 C ?_)
      | (with_reducible refine ah_ldN4 ?_; refine w_ldN4 C ?_)
      | (with_reducible refine ah_chA ?_; first | refine w_chA1 C ?_ | refine w_chA2 C ?_)
      | (with_reducible refine ah_chA3 ?_; refine w_chA3 C ?_)
      | (with_reducible refine ah_chN ?_; first | refine w_chN1 C ?_ | refine w_chN2 C ?_)
      | (with_reducible refine ah_chN4 ?_; refine w_chN4 C ?_)
      | (with_reducible refine ah_wrA ?_; refine w_wrA1 C fun w C => ?_)
      | (with_reducible refine ah_wrN ?_; refine w_wrN1 C fun w C => ?_)
      | (with_reducible refine ah_wrN2 ?_; refine w_wrN2 C fun w C => ?_)
      | (with_reducible refine ah_wrN3 ?_; refine w_wrN3 C fun w C => ?_)
    have hg1 : ¬ tooBig (Nat.gcd (nv a) (nv c)) := by
      have h3 := ck2_zero.1 h
      rcases gcd_le_max (nv a) (nv c) with h4 | h4
      · exact tb_le (ck_lg h3.1).2.2 h4
      · exact tb_le (ck_lg h3.2).2.2 h4
    have hN1 : NN w.heap.size w r.1.1 (nv a) := C.arr (i := 3) rfl
    have hN2 : NN w.heap.size w r.2.1.1 (nv c) := C.arr (i := 2) rfl
    replace C : Cx No wb w [.cells b3 [.bool false, .string (ByteArray.mk #[])]] := C.pick [4] (by simp)
    refine ok_loopN (fun k (q : Sl × Sl) w' => Cx No wb w' [.cells b3 [.bool false, .string (ByteArray.mk #[])]] ∧ ∃ n, NN w'.heap.size w' q.1 n ∧ NN w'.heap.size w' q.2 k ∧ q.1.len ≤ 1024 ∧ q.2.len ≤ 1024 ∧ Nat.gcd n k = Nat.gcd (nv a) (nv c))
      ?_ (nv c) _ _ ⟨C, nv a, hN1, hN2, hl1, hl2, rfl⟩
    clear C hN1 hN2
    rintro m ⟨x, y⟩ w ⟨C, n, hx, hy, lx, ly, hg⟩
    simp only at hx hy lx ly ⊢
    have ex := hx.len
    have ey := hy.len
    by_cases hm : m = 0
    · subst hm
      refine ok_false (by have := dw_zero (n := 0); simp; omega) ?_
      rw [Nat.gcd_zero_right] at hg
      subst hg
      refine ok_bnd.2 ?_
      refine ok_callL C (told_spec hx (dw_dg _) (by omega) false) (fun r w' h => h.1) ?_
      rintro t w3 ⟨_, ht⟩ C
      rw [vw_dw, Int.toNat_natCast] at ht
      have ht2 : toldZ (sv false (Nat.gcd (nv a) (nv c))) = (lg (Nat.gcd (nv a) (nv c)), 0) := by
        unfold toldZ; rw [if_neg (by rw [sv_natAbs]; exact hg1)]; rfl
      rw [ht2] at ht
      subst ht
      repeat first
        | with_reducible refine ok_assoc ?_
        | with_reducible refine ok_retB ?_
        | (with_reducible refine ah_newC ?_; refine ok_newL C fun bq w C => ?_)
        | (with_reducible refine ah_ord ?_; refine ok_ordL C fun oq w C => ?_)
        | (with_reducible refine ah_draw ?_; refine ok_drawL C fun w C => ?_)
        | (with_reducible refine ah_ldA ?_; first | refine w_ldA1 C ?_ | refine w_ldA2 C ?_)
        | (with_reducible refine ah_ldA3 ?_; refine w_ldA3 C ?_)
        | (with_reducible refine ah_ldA4 ?_; refine w_ldA4 C ?_)
        | (with_reducible refine ah_ldN ?_; first | refine w_ldN1 C ?_ | refine w_ldN2 C ?_)
        | (with_reducible refine ah_ldN3 ?_; refine w_ldN3 C ?_)
        | (with_reducible refine ah_ldN4 ?_; refine w_ldN4 C ?_)
        | (with_reducible refine ah_chA ?_; first | refine w_chA1 C ?_ | refine w_chA2 C ?_)
        | (with_reducible refine ah_chA3 ?_; refine w_chA3 C ?_)
        | (with_reducible refine ah_chN ?_; first | refine w_chN1 C ?_ | refine w_chN2 C ?_)
        | (with_reducible refine ah_chN4 ?_; refine w_chN4 C ?_)
        | (with_reducible refine ah_wrA ?_; refine w_wrA1 C fun w C => ?_)
        | (with_reducible refine ah_wrN ?_; refine w_wrN1 C fun w C => ?_)
        | (with_reducible refine ah_wrN2 ?_; refine w_wrN2 C fun w C => ?_)
        | (with_reducible refine ah_wrN3 ?_; refine w_wrN3 C fun w C => ?_)
      exact ok_ret.2 (ok_ret.2 ⟨C.below, rfl⟩)
    · refine ok_true (by have := dw_zero (n := m); simp; omega) ?_
      refine ok_bnd.2 (ok_mono (div_spec hx hy (by omega) (by omega) hm) ?_)
      rintro ⟨q, t⟩ w2 ⟨hB, D, hrem⟩
      have hlt : n % m < m := Nat.mod_lt _ (by omega)
      have hgg : Nat.gcd m (n % m) = Nat.gcd (nv a) (nv c) := by
        rw [← hg, Nat.gcd_comm n m, Nat.gcd_rec m n, Nat.gcd_comm]
      have hml : (dw (n % m)).length ≤ (dw n).length := dw_len_mono (Nat.mod_le _ _)
      have ht : NN w2.heap.size w2 t (n % m) := by
        rcases hrem with ⟨h1, h2⟩ | D
        · simp only at h1
          subst h1
          rw [h2]
          exact (hx.below hB).size
        · exact D.arr (i := 0) rfl
      have et := ht.len
      exact ok_ret.2 ⟨n % m, hlt, C.call hB, m, (hy.below hB).size, ht, ly, by show t.len ≤ 1024; omega, hgg⟩
  · replace C := C.call H.1
    rw [if_neg h]
    repeat first
      | with_reducible refine ok_assoc ?_
      | with_reducible refine ok_retB ?_
      | (with_reducible refine ah_newC ?_; refine ok_newL C fun bq w C => ?_)
      | (with_reducible refine ah_ord ?_; refine ok_ordL C fun oq w C => ?_)
      | (with_reducible refine ah_draw ?_; refine ok_drawL C fun w C => ?_)
      | (with_reducible refine ah_ldA ?_; first | refine w_ldA1 C ?_ | refine w_ldA2 C ?_)
      | (with_reducible refine ah_ldA3 ?_; refine w_ldA3 C ?_)
      | (with_reducible refine ah_ldA4 ?_; refine w_ldA4 C ?_)
      | (with_reducible refine ah_ldN ?_; first | refine w_ldN1 C ?_ | refine w_ldN2 C ?_)
      | (with_reducible refine ah_ldN3 ?_; refine w_ldN3 C ?_)
      | (with_reducible refine ah_ldN4 ?_; refine w_ldN4 C ?_)
      | (with_reducible refine ah_chA ?_; first | refine w_chA1 C ?_ | refine w_chA2 C ?_)
      | (with_reducible refine ah_chA3 ?_; refine w_chA3 C ?_)
      | (with_reducible refine ah_chN ?_; first | refine w_chN1 C ?_ | refine w_chN2 C ?_)
      | (with_reducible refine ah_chN4 ?_; refine w_chN4 C ?_)
      | (with_reducible refine ah_wrA ?_; refine w_wrA1 C fun w C => ?_)
      | (with_reducible refine ah_wrN ?_; refine w_wrN1 C fun w C => ?_)
      | (with_reducible refine ah_wrN2 ?_; refine w_wrN2 C fun w C => ?_)
      | (with_reducible refine ah_wrN3 ?_; refine w_wrN3 C fun w C => ?_)
    refine ok_true (by rw [H.2.1]; simpa using h) ?_
    repeat first
      | with_reducible refine ok_assoc ?_
      | with_reducible refine ok_retB ?_
      | (with_reducible refine ah_newC ?_; refine ok_newL C fun bq w C => ?_)
      | (with_reducible refine ah_ord ?_; refine ok_ordL C fun oq w C => ?_)
      | (with_reducible refine ah_draw ?_; refine ok_drawL C fun w C => ?_)
      | (with_reducible refine ah_ldA ?_; first | refine w_ldA1 C ?_ | refine w_ldA2 C ?_)
      | (with_reducible refine ah_ldA3 ?_; refine w_ldA3 C ?_)
      | (with_reducible refine ah_ldA4 ?_; refine w_ldA4 C ?_)
      | (with_reducible refine ah_ldN ?_; first | refine w_ldN1 C ?_ | refine w_ldN2 C ?_)
      | (with_reducible refine ah_ldN3 ?_; refine w_ldN3 C ?_)
      | (with_reducible refine ah_ldN4 ?_; refine w_ldN4 C ?_)
      | (with_reducible refine ah_chA ?_; first | refine w_chA1 C ?_ | refine w_chA2 C ?_)
      | (with_reducible refine ah_chA3 ?_; refine w_chA3 C ?_)
      | (with_reducible refine ah_chN ?_; first | refine w_chN1 C ?_ | refine w_chN2 C ?_)
      | (with_reducible refine ah_chN4 ?_; refine w_chN4 C ?_)
      | (with_reducible refine ah_wrA ?_; refine w_wrA1 C fun w C => ?_)
      | (with_reducible refine ah_wrN ?_; refine w_wrN1 C fun w C => ?_)
      | (with_reducible refine ah_wrN2 ?_; refine w_wrN2 C fun w C => ?_)
      | (with_reducible refine ah_wrN3 ?_; refine w_wrN3 C fun w C => ?_)
    refine ok_ret.2 ⟨C.below, ?_⟩
    rw [H.2.1]; rfl
/-- How many bits a number has. -/
def bitN (n : Nat) : Nat := if n = 0 then 0 else Nat.log2 n + 1
theorem bl_unique {n k : Nat} (h : BL n k) : k = bitN n := by
  unfold bitN
  by_cases hn : n = 0
  · rw [if_pos hn]; exact h.2.2 hn
  · rw [if_neg hn]
    have h1 := h.1
    have h2 := h.2.1 hn
    have h3 : k ≠ 0 := by rintro rfl; simp at h1; omega
    have h4 : Nat.log2 n < k := (Nat.log2_lt hn).2 h1
    have h5 : k - 1 ≤ Nat.log2 n := (Nat.le_log2 hn).2 h2
    omega
theorem bitN_bl (n : Nat) : BL n (bitN n) := by
  unfold bitN
  by_cases hn : n = 0
  · subst hn; exact ⟨by decide, by simp, by simp⟩
  · rw [if_neg hn]
    refine ⟨(Nat.log2_lt hn).1 (by omega), fun _ => ?_, fun h => absurd h hn⟩
    rw [Nat.add_sub_cancel]
    exact (Nat.le_log2 hn).1 (Nat.le_refl _)
def bitsR (a : Lg) : Int := if ck a = 0 then (bitN (nv a) : Int) else 0
theorem bits_is (a : Lg) : Is (f32_largeint_Bits a) (bitsR a) := by
  intro wb
  unfold f32_largeint_Bits bitsR
  have C := Cx.nil No wb
  repeat first
    | with_reducible refine ok_assoc ?_
    | with_reducible refine ok_retB ?_
    | refine ok_is C (check_is _) fun w C => ?_
    | (with_reducible refine ah_newC ?_; refine ok_newL C fun bq w C => ?_)
    | (with_reducible refine ah_ord ?_; refine ok_ordL C fun oq w C => ?_)
    | (with_reducible refine ah_draw ?_; refine ok_drawL C fun w C => ?_)
    | (with_reducible refine ah_ldA ?_; first | refine w_ldA1 C ?_ | refine w_ldA2 C ?_)
    | (with_reducible refine ah_ldA3 ?_; refine w_ldA3 C ?_)
    | (with_reducible refine ah_ldA4 ?_; refine w_ldA4 C ?_)
    | (with_reducible refine ah_ldN ?_; first | refine w_ldN1 C ?_ | refine w_ldN2 C ?_)
    | (with_reducible refine ah_ldN3 ?_; refine w_ldN3 C ?_)
    | (with_reducible refine ah_ldN4 ?_; refine w_ldN4 C ?_)
    | (with_reducible refine ah_chA ?_; first | refine w_chA1 C ?_ | refine w_chA2 C ?_)
    | (with_reducible refine ah_chA3 ?_; refine w_chA3 C ?_)
    | (with_reducible refine ah_chN ?_; first | refine w_chN1 C ?_ | refine w_chN2 C ?_)
    | (with_reducible refine ah_chN4 ?_; refine w_chN4 C ?_)
    | (with_reducible refine ah_wrA ?_; refine w_wrA1 C fun w C => ?_)
    | (with_reducible refine ah_wrN ?_; refine w_wrN1 C fun w C => ?_)
    | (with_reducible refine ah_wrN2 ?_; refine w_wrN2 C fun w C => ?_)
    | (with_reducible refine ah_wrN3 ?_; refine w_wrN3 C fun w C => ?_)
  by_cases h : ck a = 0
  · rw [if_pos h]
    refine ok_false (by show (ck a != 0) = false; rw [h]; rfl) ?_
    repeat first
      | with_reducible refine ok_assoc ?_
      | with_reducible refine ok_retB ?_
      | (with_reducible refine ah_newC ?_; refine ok_newL C fun bq w C => ?_)
      | (with_reducible refine ah_ord ?_; refine ok_ordL C fun oq w C => ?_)
      | (with_reducible refine ah_draw ?_; refine ok_drawL C fun w C => ?_)
      | (with_reducible refine ah_ldA ?_; first | refine w_ldA1 C ?_ | refine w_ldA2 C ?_)
      | (with_reducible refine ah_ldA3 ?_; refine w_ldA3 C ?_)
      | (with_reducible refine ah_ldA4 ?_; refine w_ldA4 C ?_)
      | (with_reducible refine ah_ldN ?_; first | refine w_ldN1 C ?_ | refine w_ldN2 C ?_)
      | (with_reducible refine ah_ldN3 ?_; refine w_ldN3 C ?_)
      | (with_reducible refine ah_ldN4 ?_; refine w_ldN4 C ?_)
      | (with_reducible refine ah_chA ?_; first | refine w_chA1 C ?_ | refine w_chA2 C ?_)
      | (with_reducible refine ah_chA3 ?_; refine w_chA3 C ?_)
      | (with_reducible refine ah_chN ?_; first | refine w_chN1 C ?_ | refine w_chN2 C ?_)
      | (with_reducible refine ah_chN4 ?_; refine w_chN4 C ?_)
      | (with_reducible refine ah_wrA ?_; refine w_wrA1 C fun w C => ?_)
      | (with_reducible refine ah_wrN ?_; refine w_wrN1 C fun w C => ?_)
      | (with_reducible refine ah_wrN2 ?_; refine w_wrN2 C fun w C => ?_)
      | (with_reducible refine ah_wrN3 ?_; refine w_wrN3 C fun w C => ?_)
    refine ok_join C (of_spec (ck_mk h) (ck_size h) _) (fun r w' h => h.1) ?_
    rintro ⟨x, s⟩ w ⟨_, rfl⟩ C
    simp only [List.cons_append, List.nil_append] at C
    have hx : NN w.heap.size w x (nv a) := C.arr (i := 0) rfl
    refine ok_bnd.2 (ok_mono (long_spec hx (by rw [hx.len]; have := dw_len_ok h; omega)) ?_)
    rintro _ w2 ⟨rfl, k, rfl, hk⟩
    exact ok_ret.2 ⟨C.below, by rw [bl_unique hk]⟩
  · rw [if_neg h]
    exact ok_true (by show (ck a != 0) = true; simpa using h) (ok_ret.2 ⟨C.below, rfl⟩)
/-- Cut down, or times a power of two. -/
def shlZ (z : Int) (k : Int) : Int := if 0 ≤ k then z * 2 ^ k.toNat else Int.fdiv z (2 ^ (-k).toNat)
def shiftR (a : Lg) (k : Int) : Lg × Int := if ck a = 0 then (if k < -32768 ∨ 32768 < k then (zr, 91) else toldZ (shlZ (iv a) k)) else (zr, ck a)
theorem sv_pow (s : Bool) (n k : Nat) : sv s (n * 2 ^ k) = sv s n * 2 ^ k := by
  cases s <;> simp [sv, Int.neg_mul]
theorem fdiv_pow (s : Bool) (n k : Nat) : sv s (n / 2 ^ k + (if s && decide (n % 2 ^ k ≠ 0) then 1 else 0)) = Int.fdiv (sv s n) (2 ^ k) := by
  have hp : 0 < 2 ^ k := Nat.two_pow_pos k
  have e : (2 : Int) ^ k = ((2 ^ k : Nat) : Int) := by simp
  rw [Int.fdiv_eq_ediv_of_nonneg _ (Int.pow_nonneg (by decide)), e]
  generalize 2 ^ k = P at *
  have hdm := Nat.div_add_mod n P
  cases s
  · simp [sv]
  · simp only [sv, if_true, Bool.true_and, decide_eq_true_eq]
    have hml := Nat.mod_lt n hp
    by_cases h : n % P = 0
    · rw [if_neg (by simpa using h)]
      rw [h, Nat.add_zero] at hdm
      symm
      rw [Nat.add_zero]
      refine (Int.ediv_eq_iff_of_pos (by omega)).2 ?_
      have : -(n : Int) = -((n / P : Nat) : Int) * (P : Int) := by
        rw [← hdm]; simp; grind
      constructor
      · omega
      · omega
    · rw [if_pos (by simpa using h)]
      symm
      refine (Int.ediv_eq_iff_of_pos (by omega)).2 ?_
      have h2 : (n : Int) = (P : Int) * ((n / P : Nat) : Int) + ((n % P : Nat) : Int) := by exact_mod_cast hdm.symm
      generalize n % P = R at *
      generalize n / P = K at *
      constructor
      · have : -((K + 1 : Nat) : Int) * (P : Int) = -((P : Int) * (K : Int)) - P := by push_cast; grind
        omega
      · have : -((K + 1 : Nat) : Int) * (P : Int) = -((P : Int) * (K : Int)) - P := by push_cast; grind
        omega
theorem pow_words {j N : Nat} (h : j < 32 * N) : (dw (2 ^ j)).length ≤ N := by
  refine dgs_length hBW ?_
  have h3 : 2 ^ j < 2 ^ (32 * N) := Nat.pow_lt_pow_right (by decide) h
  rw [Nat.pow_mul] at h3
  exact h3
theorem dw_one : dw 1 = [1] := by
  unfold dw
  rw [dgs_pos hBW (by decide), show 1 / BW = 0 from by decide, dgs_zero]
  rfl
theorem shift_is (a : Lg) {k : Int} (hk : -9223372036854775808 ≤ k ∧ k ≤ 9223372036854775807) : Is (f30_largeint_Shift a k) (shiftR a k) := by
  intro wb
  unfold f30_largeint_Shift shiftR
  have C := Cx.nil No wb
  repeat first
    | with_reducible refine ok_assoc ?_
    | with_reducible refine ok_retB ?_
    | refine ok_is C (check_is _) fun w C => ?_
    | (with_reducible refine ah_newC ?_; refine ok_newL C fun bq w C => ?_)
    | (with_reducible refine ah_ord ?_; refine ok_ordL C fun oq w C => ?_)
    | (with_reducible refine ah_draw ?_; refine ok_drawL C fun w C => ?_)
    | (with_reducible refine ah_ldA ?_; first | refine w_ldA1 C ?_ | refine w_ldA2 C ?_)
    | (with_reducible refine ah_ldA3 ?_; refine w_ldA3 C ?_)
    | (with_reducible refine ah_ldA4 ?_; refine w_ldA4 C ?_)
    | (with_reducible refine ah_ldN ?_; first | refine w_ldN1 C ?_ | refine w_ldN2 C ?_)
    | (with_reducible refine ah_ldN3 ?_; refine w_ldN3 C ?_)
    | (with_reducible refine ah_ldN4 ?_; refine w_ldN4 C ?_)
    | (with_reducible refine ah_chA ?_; first | refine w_chA1 C ?_ | refine w_chA2 C ?_)
    | (with_reducible refine ah_chA3 ?_; refine w_chA3 C ?_)
    | (with_reducible refine ah_chN ?_; first | refine w_chN1 C ?_ | refine w_chN2 C ?_)
    | (with_reducible refine ah_chN4 ?_; refine w_chN4 C ?_)
    | (with_reducible refine ah_wrA ?_; refine w_wrA1 C fun w C => ?_)
    | (with_reducible refine ah_wrN ?_; refine w_wrN1 C fun w C => ?_)
    | (with_reducible refine ah_wrN2 ?_; refine w_wrN2 C fun w C => ?_)
    | (with_reducible refine ah_wrN3 ?_; refine w_wrN3 C fun w C => ?_)
  by_cases h : ck a = 0
  rotate_left
  · rw [if_neg h]
    refine ok_true (by show (ck a != 0) = true; simpa using h) ?_
    repeat first
      | with_reducible refine ok_assoc ?_
      | with_reducible refine ok_retB ?_
      | (with_reducible refine ah_newC ?_; refine ok_newL C fun bq w C => ?_)
      | (with_reducible refine ah_ord ?_; refine ok_ordL C fun oq w C => ?_)
      | (with_reducible refine ah_draw ?_; refine ok_drawL C fun w C => ?_)
      | (with_reducible refine ah_ldA ?_; first | refine w_ldA1 C ?_ | refine w_ldA2 C ?_)
      | (with_reducible refine ah_ldA3 ?_; refine w_ldA3 C ?_)
      | (with_reducible refine ah_ldA4 ?_; refine w_ldA4 C ?_)
      | (with_reducible refine ah_ldN ?_; first | refine w_ldN1 C ?_ | refine w_ldN2 C ?_)
      | (with_reducible refine ah_ldN3 ?_; refine w_ldN3 C ?_)
      | (with_reducible refine ah_ldN4 ?_; refine w_ldN4 C ?_)
      | (with_reducible refine ah_chA ?_; first | refine w_chA1 C ?_ | refine w_chA2 C ?_)
      | (with_reducible refine ah_chA3 ?_; refine w_chA3 C ?_)
      | (with_reducible refine ah_chN ?_; first | refine w_chN1 C ?_ | refine w_chN2 C ?_)
      | (with_reducible refine ah_chN4 ?_; refine w_chN4 C ?_)
      | (with_reducible refine ah_wrA ?_; refine w_wrA1 C fun w C => ?_)
      | (with_reducible refine ah_wrN ?_; refine w_wrN1 C fun w C => ?_)
      | (with_reducible refine ah_wrN2 ?_; refine w_wrN2 C fun w C => ?_)
      | (with_reducible refine ah_wrN3 ?_; refine w_wrN3 C fun w C => ?_)
    exact ok_ret.2 ⟨C.below, rfl⟩
  rw [if_pos h]
  refine ok_false (by show (ck a != 0) = false; rw [h]; rfl) ?_
  repeat first
    | with_reducible refine ok_assoc ?_
    | with_reducible refine ok_retB ?_
    | (with_reducible refine ah_newC ?_; refine ok_newL C fun bq w C => ?_)
    | (with_reducible refine ah_ord ?_; refine ok_ordL C fun oq w C => ?_)
    | (with_reducible refine ah_draw ?_; refine ok_drawL C fun w C => ?_)
    | (with_reducible refine ah_ldA ?_; first | refine w_ldA1 C ?_ | refine w_ldA2 C ?_)
    | (with_reducible refine ah_ldA3 ?_; refine w_ldA3 C ?_)
    | (with_reducible refine ah_ldA4 ?_; refine w_ldA4 C ?_)
    | (with_reducible refine ah_ldN ?_; first | refine w_ldN1 C ?_ | refine w_ldN2 C ?_)
    | (with_reducible refine ah_ldN3 ?_; refine w_ldN3 C ?_)
    | (with_reducible refine ah_ldN4 ?_; refine w_ldN4 C ?_)
    | (with_reducible refine ah_chA ?_; first | refine w_chA1 C ?_ | refine w_chA2 C ?_)
    | (with_reducible refine ah_chA3 ?_; refine w_chA3 C ?_)
    | (with_reducible refine ah_chN ?_; first | refine w_chN1 C ?_ | refine w_chN2 C ?_)
    | (with_reducible refine ah_chN4 ?_; refine w_chN4 C ?_)
    | (with_reducible refine ah_wrA ?_; refine w_wrA1 C fun w C => ?_)
    | (with_reducible refine ah_wrN ?_; refine w_wrN1 C fun w C => ?_)
    | (with_reducible refine ah_wrN2 ?_; refine w_wrN2 C fun w C => ?_)
    | (with_reducible refine ah_wrN3 ?_; refine w_wrN3 C fun w C => ?_)
  refine ok_join C (of_spec (ck_mk h) (ck_size h) _) (fun r w' h => h.1) ?_
  rintro ⟨x, s⟩ w ⟨_, hs⟩ C
  simp only [List.cons_append, List.nil_append] at C hs
  subst hs
  repeat first
    | with_reducible refine ok_assoc ?_
    | with_reducible refine ok_retB ?_
    | (with_reducible refine ah_newC ?_; refine ok_newL C fun bq w C => ?_)
    | (with_reducible refine ah_ord ?_; refine ok_ordL C fun oq w C => ?_)
    | (with_reducible refine ah_draw ?_; refine ok_drawL C fun w C => ?_)
    | (with_reducible refine ah_ldA ?_; first | refine w_ldA1 C ?_ | refine w_ldA2 C ?_)
    | (with_reducible refine ah_ldA3 ?_; refine w_ldA3 C ?_)
    | (with_reducible refine ah_ldA4 ?_; refine w_ldA4 C ?_)
    | (with_reducible refine ah_ldN ?_; first | refine w_ldN1 C ?_ | refine w_ldN2 C ?_)
    | (with_reducible refine ah_ldN3 ?_; refine w_ldN3 C ?_)
    | (with_reducible refine ah_ldN4 ?_; refine w_ldN4 C ?_)
    | (with_reducible refine ah_chA ?_; first | refine w_chA1 C ?_ | refine w_chA2 C ?_)
    | (with_reducible refine ah_chA3 ?_; refine w_chA3 C ?_)
    | (with_reducible refine ah_chN ?_; first | refine w_chN1 C ?_ | refine w_chN2 C ?_)
    | (with_reducible refine ah_chN4 ?_; refine w_chN4 C ?_)
    | (with_reducible refine ah_wrA ?_; refine w_wrA1 C fun w C => ?_)
    | (with_reducible refine ah_wrN ?_; refine w_wrN1 C fun w C => ?_)
    | (with_reducible refine ah_wrN2 ?_; refine w_wrN2 C fun w C => ?_)
    | (with_reducible refine ah_wrN3 ?_; refine w_wrN3 C fun w C => ?_)
  by_cases hf : k < -32768 ∨ 32768 < k
  · rw [if_pos hf]
    refine ok_true ?_ ?_
    · by_cases h1 : k < -32768
      · simp [h1]
      · simp [h1]; omega
    repeat first
      | with_reducible refine ok_assoc ?_
      | with_reducible refine ok_retB ?_
      | (with_reducible refine ah_newC ?_; refine ok_newL C fun bq w C => ?_)
      | (with_reducible refine ah_ord ?_; refine ok_ordL C fun oq w C => ?_)
      | (with_reducible refine ah_draw ?_; refine ok_drawL C fun w C => ?_)
      | (with_reducible refine ah_ldA ?_; first | refine w_ldA1 C ?_ | refine w_ldA2 C ?_)
      | (with_reducible refine ah_ldA3 ?_; refine w_ldA3 C ?_)
      | (with_reducible refine ah_ldA4 ?_; refine w_ldA4 C ?_)
      | (with_reducible refine ah_ldN ?_; first | refine w_ldN1 C ?_ | refine w_ldN2 C ?_)
      | (with_reducible refine ah_ldN3 ?_; refine w_ldN3 C ?_)
      | (with_reducible refine ah_ldN4 ?_; refine w_ldN4 C ?_)
      | (with_reducible refine ah_chA ?_; first | refine w_chA1 C ?_ | refine w_chA2 C ?_)
      | (with_reducible refine ah_chA3 ?_; refine w_chA3 C ?_)
      | (with_reducible refine ah_chN ?_; first | refine w_chN1 C ?_ | refine w_chN2 C ?_)
      | (with_reducible refine ah_chN4 ?_; refine w_chN4 C ?_)
      | (with_reducible refine ah_wrA ?_; refine w_wrA1 C fun w C => ?_)
      | (with_reducible refine ah_wrN ?_; refine w_wrN1 C fun w C => ?_)
      | (with_reducible refine ah_wrN2 ?_; refine w_wrN2 C fun w C => ?_)
      | (with_reducible refine ah_wrN3 ?_; refine w_wrN3 C fun w C => ?_)
    exact ok_ret.2 ⟨C.below, rfl⟩
  rw [if_neg hf]
  refine ok_false (by simp only [show ¬ k < -32768 by omega, decide_false, cond_false, gt_iff_lt, decide_eq_false_iff_not]; omega) ?_
  have hlx : x.len = (dw (nv a)).length := by have := (C.arr (i := 1) (xs := nums .u32 (dw (nv a))) rfl).1; simpa using this
  have hla := dw_len_ok h
  by_cases h0 : 0 ≤ k
  · refine ok_true (by simpa using h0) ?_
    repeat first
      | with_reducible refine ok_assoc ?_
      | with_reducible refine ok_retB ?_
      | (with_reducible refine ah_newC ?_; refine ok_newL C fun bq w C => ?_)
      | (with_reducible refine ah_ord ?_; refine ok_ordL C fun oq w C => ?_)
      | (with_reducible refine ah_draw ?_; refine ok_drawL C fun w C => ?_)
      | (with_reducible refine ah_ldA ?_; first | refine w_ldA1 C ?_ | refine w_ldA2 C ?_)
      | (with_reducible refine ah_ldA3 ?_; refine w_ldA3 C ?_)
      | (with_reducible refine ah_ldA4 ?_; refine w_ldA4 C ?_)
      | (with_reducible refine ah_ldN ?_; first | refine w_ldN1 C ?_ | refine w_ldN2 C ?_)
      | (with_reducible refine ah_ldN3 ?_; refine w_ldN3 C ?_)
      | (with_reducible refine ah_ldN4 ?_; refine w_ldN4 C ?_)
      | (with_reducible refine ah_chA ?_; first | refine w_chA1 C ?_ | refine w_chA2 C ?_)
      | (with_reducible refine ah_chA3 ?_; refine w_chA3 C ?_)
      | (with_reducible refine ah_chN ?_; first | refine w_chN1 C ?_ | refine w_chN2 C ?_)
      | (with_reducible refine ah_chN4 ?_; refine w_chN4 C ?_)
      | (with_reducible refine ah_wrA ?_; refine w_wrA1 C fun w C => ?_)
      | (with_reducible refine ah_wrN ?_; refine w_wrN1 C fun w C => ?_)
      | (with_reducible refine ah_wrN2 ?_; refine w_wrN2 C fun w C => ?_)
      | (with_reducible refine ah_wrN3 ?_; refine w_wrN3 C fun w C => ?_)
    rw [wrapU_in (n := k) (by omega)]
    refine ok_callL C (left_spec (C.arr (i := 1) (xs := nums .u32 (dw (nv a))) rfl) (show x.len ≤ 1000000000 by omega) h0 (by omega)) (fun r w' h => h.1) ?_
    rintro y w2 ⟨hB, hy⟩ _
    replace C := C.addOwn hB hy
    clear hB
    repeat first
      | with_reducible refine ok_assoc ?_
      | with_reducible refine ok_retB ?_
      | (with_reducible refine ah_newC ?_; refine ok_newL C fun bq w C => ?_)
      | (with_reducible refine ah_ord ?_; refine ok_ordL C fun oq w C => ?_)
      | (with_reducible refine ah_draw ?_; refine ok_drawL C fun w C => ?_)
      | (with_reducible refine ah_ldA ?_; first | refine w_ldA1 C ?_ | refine w_ldA2 C ?_)
      | (with_reducible refine ah_ldA3 ?_; refine w_ldA3 C ?_)
      | (with_reducible refine ah_ldA4 ?_; refine w_ldA4 C ?_)
      | (with_reducible refine ah_ldN ?_; first | refine w_ldN1 C ?_ | refine w_ldN2 C ?_)
      | (with_reducible refine ah_ldN3 ?_; refine w_ldN3 C ?_)
      | (with_reducible refine ah_ldN4 ?_; refine w_ldN4 C ?_)
      | (with_reducible refine ah_chA ?_; first | refine w_chA1 C ?_ | refine w_chA2 C ?_)
      | (with_reducible refine ah_chA3 ?_; refine w_chA3 C ?_)
      | (with_reducible refine ah_chN ?_; first | refine w_chN1 C ?_ | refine w_chN2 C ?_)
      | (with_reducible refine ah_chN4 ?_; refine w_chN4 C ?_)
      | (with_reducible refine ah_wrA ?_; refine w_wrA1 C fun w C => ?_)
      | (with_reducible refine ah_wrN ?_; refine w_wrN1 C fun w C => ?_)
      | (with_reducible refine ah_wrN2 ?_; refine w_wrN2 C fun w C => ?_)
      | (with_reducible refine ah_wrN3 ?_; refine w_wrN3 C fun w C => ?_)
    have hyl : (dw (nv a * 2 ^ k.toNat)).length ≤ 1024 + 1025 := by
      have h1 := len_mul (nv a) (2 ^ k.toNat)
      have h2 : (dw (2 ^ k.toNat)).length ≤ 1025 := pow_words (by omega)
      omega
    refine ok_callL C (told_spec (C.arr (i := 0) (xs := nums .u32 (dw (nv a * 2 ^ k.toNat))) rfl) (dw_dg _) (by rw [NO.len hy]; omega) _) (fun r w' h => h.1) ?_
    rintro t w3 ⟨_, ht⟩ C
    rw [vw_dw, Int.toNat_natCast, sv_pow] at ht
    have e : shlZ (iv a) k = sv a.1 (nv a) * 2 ^ k.toNat := by unfold shlZ; rw [if_pos h0]; rfl
    rw [e]
    subst ht
    repeat first
      | with_reducible refine ok_assoc ?_
      | with_reducible refine ok_retB ?_
      | (with_reducible refine ah_newC ?_; refine ok_newL C fun bq w C => ?_)
      | (with_reducible refine ah_ord ?_; refine ok_ordL C fun oq w C => ?_)
      | (with_reducible refine ah_draw ?_; refine ok_drawL C fun w C => ?_)
      | (with_reducible refine ah_ldA ?_; first | refine w_ldA1 C ?_ | refine w_ldA2 C ?_)
      | (with_reducible refine ah_ldA3 ?_; refine w_ldA3 C ?_)
      | (with_reducible refine ah_ldA4 ?_; refine w_ldA4 C ?_)
      | (with_reducible refine ah_ldN ?_; first | refine w_ldN1 C ?_ | refine w_ldN2 C ?_)
      | (with_reducible refine ah_ldN3 ?_; refine w_ldN3 C ?_)
      | (with_reducible refine ah_ldN4 ?_; refine w_ldN4 C ?_)
      | (with_reducible refine ah_chA ?_; first | refine w_chA1 C ?_ | refine w_chA2 C ?_)
      | (with_reducible refine ah_chA3 ?_; refine w_chA3 C ?_)
      | (with_reducible refine ah_chN ?_; first | refine w_chN1 C ?_ | refine w_chN2 C ?_)
      | (with_reducible refine ah_chN4 ?_; refine w_chN4 C ?_)
      | (with_reducible refine ah_wrA ?_; refine w_wrA1 C fun w C => ?_)
      | (with_reducible refine ah_wrN ?_; refine w_wrN1 C fun w C => ?_)
      | (with_reducible refine ah_wrN2 ?_; refine w_wrN2 C fun w C => ?_)
      | (with_reducible refine ah_wrN3 ?_; refine w_wrN3 C fun w C => ?_)
    exact ok_ret.2 ⟨C.below, rfl⟩
  · refine ok_false (by simpa using h0) ?_
    repeat first
      | with_reducible refine ok_assoc ?_
      | with_reducible refine ok_retB ?_
      | (with_reducible refine ah_newC ?_; refine ok_newL C fun bq w C => ?_)
      | (with_reducible refine ah_ord ?_; refine ok_ordL C fun oq w C => ?_)
      | (with_reducible refine ah_draw ?_; refine ok_drawL C fun w C => ?_)
      | (with_reducible refine ah_ldA ?_; first | refine w_ldA1 C ?_ | refine w_ldA2 C ?_)
      | (with_reducible refine ah_ldA3 ?_; refine w_ldA3 C ?_)
      | (with_reducible refine ah_ldA4 ?_; refine w_ldA4 C ?_)
      | (with_reducible refine ah_ldN ?_; first | refine w_ldN1 C ?_ | refine w_ldN2 C ?_)
      | (with_reducible refine ah_ldN3 ?_; refine w_ldN3 C ?_)
      | (with_reducible refine ah_ldN4 ?_; refine w_ldN4 C ?_)
      | (with_reducible refine ah_chA ?_; first | refine w_chA1 C ?_ | refine w_chA2 C ?_)
      | (with_reducible refine ah_chA3 ?_; refine w_chA3 C ?_)
      | (with_reducible refine ah_chN ?_; first | refine w_chN1 C ?_ | refine w_chN2 C ?_)
      | (with_reducible refine ah_chN4 ?_; refine w_chN4 C ?_)
      | (with_reducible refine ah_wrA ?_; refine w_wrA1 C fun w C => ?_)
      | (with_reducible refine ah_wrN ?_; refine w_wrN1 C fun w C => ?_)
      | (with_reducible refine ah_wrN2 ?_; refine w_wrN2 C fun w C => ?_)
      | (with_reducible refine ah_wrN3 ?_; refine w_wrN3 C fun w C => ?_)
    rw [wrapI_in (n := 0 - k) (by omega), wrapU_in (n := 0 - k) (by omega)]
    refine ok_callL C (right_spec (C.arr (i := 1) (xs := nums .u32 (dw (nv a))) rfl) (show x.len ≤ 1000000000 by omega) (by_ := 0 - k) (by omega) (by omega)) (fun r w' h => h.1) ?_
    rintro ⟨y, lost⟩ w2 ⟨hB, hy, hlost⟩ _
    simp only at hy hlost
    replace C := C.addOwn hB hy
    clear hB
    rw [show 0 - k = -k by omega] at hy hlost C
    have hyl : (dw (nv a / 2 ^ (-k).toNat)).length ≤ (dw (nv a)).length := dw_len_mono (Nat.div_le_self _ _)
    have e : shlZ (iv a) k = sv a.1 (nv a / 2 ^ (-k).toNat + (if a.1 && lost then 1 else 0)) := by
      unfold shlZ; rw [if_neg h0, hlost]; exact (fdiv_pow _ _ _).symm
    rw [e]
    by_cases hl : lost = true
    · refine ok_tB hl ?_
      repeat first
        | with_reducible refine ok_assoc ?_
        | with_reducible refine ok_retB ?_
        | (with_reducible refine ah_newC ?_; refine ok_newL C fun bq w C => ?_)
        | (with_reducible refine ah_ord ?_; refine ok_ordL C fun oq w C => ?_)
        | (with_reducible refine ah_draw ?_; refine ok_drawL C fun w C => ?_)
        | (with_reducible refine ah_ldA ?_; first | refine w_ldA1 C ?_ | refine w_ldA2 C ?_)
        | (with_reducible refine ah_ldA3 ?_; refine w_ldA3 C ?_)
        | (with_reducible refine ah_ldA4 ?_; refine w_ldA4 C ?_)
        | (with_reducible refine ah_ldN ?_; first | refine w_ldN1 C ?_ | refine w_ldN2 C ?_)
        | (with_reducible refine ah_ldN3 ?_; refine w_ldN3 C ?_)
        | (with_reducible refine ah_ldN4 ?_; refine w_ldN4 C ?_)
        | (with_reducible refine ah_chA ?_; first | refine w_chA1 C ?_ | refine w_chA2 C ?_)
        | (with_reducible refine ah_chA3 ?_; refine w_chA3 C ?_)
        | (with_reducible refine ah_chN ?_; first | refine w_chN1 C ?_ | refine w_chN2 C ?_)
        | (with_reducible refine ah_chN4 ?_; refine w_chN4 C ?_)
        | (with_reducible refine ah_wrA ?_; refine w_wrA1 C fun w C => ?_)
        | (with_reducible refine ah_wrN ?_; refine w_wrN1 C fun w C => ?_)
        | (with_reducible refine ah_wrN2 ?_; refine w_wrN2 C fun w C => ?_)
        | (with_reducible refine ah_wrN3 ?_; refine w_wrN3 C fun w C => ?_)
      by_cases hn : a.1 = true
      · refine ok_tB hn ?_
        refine ok_assoc (ok_bnd.2 (ok_buildL1 slt50 _ rfl ?_))
        replace C := C.build1 (T := 50) (e := 67) (v := .int .u32 1)
        have h1 : NN (w2.alloc (.cells #[.int .u32 1] 67)).heap.size (w2.alloc (.cells #[.int .u32 1] 67)) ⟨some ⟨w2.heap.size, 0, none⟩, 1, 1⟩ 1 := by
          have : dw 1 = [1] := dw_one
          unfold NN
          rw [this]
          exact C.arr (i := 0) rfl
        refine ok_assoc (ok_callL C (add_spec (C.arr (i := 1) (xs := nums .u32 (dw (nv a / 2 ^ (-k).toNat))) rfl) h1 (by show y.len ≤ _; rw [NO.len hy]; omega) (show 1 ≤ 1000000000 by decide)) (fun r w' h => h.1) ?_)
        rintro z w3 ⟨hB, hz⟩ _
        replace C := C.addOwn hB hz
        clear hB
        repeat first
          | with_reducible refine ok_assoc ?_
          | with_reducible refine ok_retB ?_
          | (with_reducible refine ah_newC ?_; refine ok_newL C fun bq w C => ?_)
          | (with_reducible refine ah_ord ?_; refine ok_ordL C fun oq w C => ?_)
          | (with_reducible refine ah_draw ?_; refine ok_drawL C fun w C => ?_)
          | (with_reducible refine ah_ldA ?_; first | refine w_ldA1 C ?_ | refine w_ldA2 C ?_)
          | (with_reducible refine ah_ldA3 ?_; refine w_ldA3 C ?_)
          | (with_reducible refine ah_ldA4 ?_; refine w_ldA4 C ?_)
          | (with_reducible refine ah_ldN ?_; first | refine w_ldN1 C ?_ | refine w_ldN2 C ?_)
          | (with_reducible refine ah_ldN3 ?_; refine w_ldN3 C ?_)
          | (with_reducible refine ah_ldN4 ?_; refine w_ldN4 C ?_)
          | (with_reducible refine ah_chA ?_; first | refine w_chA1 C ?_ | refine w_chA2 C ?_)
          | (with_reducible refine ah_chA3 ?_; refine w_chA3 C ?_)
          | (with_reducible refine ah_chN ?_; first | refine w_chN1 C ?_ | refine w_chN2 C ?_)
          | (with_reducible refine ah_chN4 ?_; refine w_chN4 C ?_)
          | (with_reducible refine ah_wrA ?_; refine w_wrA1 C fun w C => ?_)
          | (with_reducible refine ah_wrN ?_; refine w_wrN1 C fun w C => ?_)
          | (with_reducible refine ah_wrN2 ?_; refine w_wrN2 C fun w C => ?_)
          | (with_reducible refine ah_wrN3 ?_; refine w_wrN3 C fun w C => ?_)
        have hzl := len_add (K := 1024) (n := nv a / 2 ^ (-k).toNat) (m := 1) (k := nv a / 2 ^ (-k).toNat + 1) (by omega) (tb_words (tb_small (by decide))) (Nat.le_refl _)
        refine ok_callL C (told_spec (C.arr (i := 0) (xs := nums .u32 (dw (nv a / 2 ^ (-k).toNat + 1))) rfl) (dw_dg _) (by rw [NO.len hz]; omega) _) (fun r w' h => h.1) ?_
        rintro t w4 ⟨_, ht⟩ C
        rw [vw_dw, Int.toNat_natCast] at ht
        rw [hn, hl]
        rw [hn] at ht
        subst ht
        repeat first
          | with_reducible refine ok_assoc ?_
          | with_reducible refine ok_retB ?_
          | (with_reducible refine ah_newC ?_; refine ok_newL C fun bq w C => ?_)
          | (with_reducible refine ah_ord ?_; refine ok_ordL C fun oq w C => ?_)
          | (with_reducible refine ah_draw ?_; refine ok_drawL C fun w C => ?_)
          | (with_reducible refine ah_ldA ?_; first | refine w_ldA1 C ?_ | refine w_ldA2 C ?_)
          | (with_reducible refine ah_ldA3 ?_; refine w_ldA3 C ?_)
          | (with_reducible refine ah_ldA4 ?_; refine w_ldA4 C ?_)
          | (with_reducible refine ah_ldN ?_; first | refine w_ldN1 C ?_ | refine w_ldN2 C ?_)
          | (with_reducible refine ah_ldN3 ?_; refine w_ldN3 C ?_)
          | (with_reducible refine ah_ldN4 ?_; refine w_ldN4 C ?_)
          | (with_reducible refine ah_chA ?_; first | refine w_chA1 C ?_ | refine w_chA2 C ?_)
          | (with_reducible refine ah_chA3 ?_; refine w_chA3 C ?_)
          | (with_reducible refine ah_chN ?_; first | refine w_chN1 C ?_ | refine w_chN2 C ?_)
          | (with_reducible refine ah_chN4 ?_; refine w_chN4 C ?_)
          | (with_reducible refine ah_wrA ?_; refine w_wrA1 C fun w C => ?_)
          | (with_reducible refine ah_wrN ?_; refine w_wrN1 C fun w C => ?_)
          | (with_reducible refine ah_wrN2 ?_; refine w_wrN2 C fun w C => ?_)
          | (with_reducible refine ah_wrN3 ?_; refine w_wrN3 C fun w C => ?_)
        exact ok_ret.2 ⟨C.below, rfl⟩
      · rw [Bool.not_eq_true] at hn
        refine ok_fB hn ?_
        repeat first
          | with_reducible refine ok_assoc ?_
          | with_reducible refine ok_retB ?_
          | (with_reducible refine ah_newC ?_; refine ok_newL C fun bq w C => ?_)
          | (with_reducible refine ah_ord ?_; refine ok_ordL C fun oq w C => ?_)
          | (with_reducible refine ah_draw ?_; refine ok_drawL C fun w C => ?_)
          | (with_reducible refine ah_ldA ?_; first | refine w_ldA1 C ?_ | refine w_ldA2 C ?_)
          | (with_reducible refine ah_ldA3 ?_; refine w_ldA3 C ?_)
          | (with_reducible refine ah_ldA4 ?_; refine w_ldA4 C ?_)
          | (with_reducible refine ah_ldN ?_; first | refine w_ldN1 C ?_ | refine w_ldN2 C ?_)
          | (with_reducible refine ah_ldN3 ?_; refine w_ldN3 C ?_)
          | (with_reducible refine ah_ldN4 ?_; refine w_ldN4 C ?_)
          | (with_reducible refine ah_chA ?_; first | refine w_chA1 C ?_ | refine w_chA2 C ?_)
          | (with_reducible refine ah_chA3 ?_; refine w_chA3 C ?_)
          | (with_reducible refine ah_chN ?_; first | refine w_chN1 C ?_ | refine w_chN2 C ?_)
          | (with_reducible refine ah_chN4 ?_; refine w_chN4 C ?_)
          | (with_reducible refine ah_wrA ?_; refine w_wrA1 C fun w C => ?_)
          | (with_reducible refine ah_wrN ?_; refine w_wrN1 C fun w C => ?_)
          | (with_reducible refine ah_wrN2 ?_; refine w_wrN2 C fun w C => ?_)
          | (with_reducible refine ah_wrN3 ?_; refine w_wrN3 C fun w C => ?_)
        refine ok_callL C (told_spec (C.arr (i := 0) (xs := nums .u32 (dw (nv a / 2 ^ (-k).toNat))) rfl) (dw_dg _) (by show y.len ≤ _; rw [NO.len hy]; omega) _) (fun r w' h => h.1) ?_
        rintro t w4 ⟨_, ht⟩ C
        rw [vw_dw, Int.toNat_natCast] at ht
        rw [hn]
        rw [hn] at ht
        subst ht
        repeat first
          | with_reducible refine ok_assoc ?_
          | with_reducible refine ok_retB ?_
          | (with_reducible refine ah_newC ?_; refine ok_newL C fun bq w C => ?_)
          | (with_reducible refine ah_ord ?_; refine ok_ordL C fun oq w C => ?_)
          | (with_reducible refine ah_draw ?_; refine ok_drawL C fun w C => ?_)
          | (with_reducible refine ah_ldA ?_; first | refine w_ldA1 C ?_ | refine w_ldA2 C ?_)
          | (with_reducible refine ah_ldA3 ?_; refine w_ldA3 C ?_)
          | (with_reducible refine ah_ldA4 ?_; refine w_ldA4 C ?_)
          | (with_reducible refine ah_ldN ?_; first | refine w_ldN1 C ?_ | refine w_ldN2 C ?_)
          | (with_reducible refine ah_ldN3 ?_; refine w_ldN3 C ?_)
          | (with_reducible refine ah_ldN4 ?_; refine w_ldN4 C ?_)
          | (with_reducible refine ah_chA ?_; first | refine w_chA1 C ?_ | refine w_chA2 C ?_)
          | (with_reducible refine ah_chA3 ?_; refine w_chA3 C ?_)
          | (with_reducible refine ah_chN ?_; first | refine w_chN1 C ?_ | refine w_chN2 C ?_)
          | (with_reducible refine ah_chN4 ?_; refine w_chN4 C ?_)
          | (with_reducible refine ah_wrA ?_; refine w_wrA1 C fun w C => ?_)
          | (with_reducible refine ah_wrN ?_; refine w_wrN1 C fun w C => ?_)
          | (with_reducible refine ah_wrN2 ?_; refine w_wrN2 C fun w C => ?_)
          | (with_reducible refine ah_wrN3 ?_; refine w_wrN3 C fun w C => ?_)
        exact ok_ret.2 ⟨C.below, rfl⟩
    · rw [Bool.not_eq_true] at hl
      refine ok_fB hl ?_
      repeat first
        | with_reducible refine ok_assoc ?_
        | with_reducible refine ok_retB ?_
        | (with_reducible refine ah_newC ?_; refine ok_newL C fun bq w C => ?_)
        | (with_reducible refine ah_ord ?_; refine ok_ordL C fun oq w C => ?_)
        | (with_reducible refine ah_draw ?_; refine ok_drawL C fun w C => ?_)
        | (with_reducible refine ah_ldA ?_; first | refine w_ldA1 C ?_ | refine w_ldA2 C ?_)
        | (with_reducible refine ah_ldA3 ?_; refine w_ldA3 C ?_)
        | (with_reducible refine ah_ldA4 ?_; refine w_ldA4 C ?_)
        | (with_reducible refine ah_ldN ?_; first | refine w_ldN1 C ?_ | refine w_ldN2 C ?_)
        | (with_reducible refine ah_ldN3 ?_; refine w_ldN3 C ?_)
        | (with_reducible refine ah_ldN4 ?_; refine w_ldN4 C ?_)
        | (with_reducible refine ah_chA ?_; first | refine w_chA1 C ?_ | refine w_chA2 C ?_)
        | (with_reducible refine ah_chA3 ?_; refine w_chA3 C ?_)
        | (with_reducible refine ah_chN ?_; first | refine w_chN1 C ?_ | refine w_chN2 C ?_)
        | (with_reducible refine ah_chN4 ?_; refine w_chN4 C ?_)
        | (with_reducible refine ah_wrA ?_; refine w_wrA1 C fun w C => ?_)
        | (with_reducible refine ah_wrN ?_; refine w_wrN1 C fun w C => ?_)
        | (with_reducible refine ah_wrN2 ?_; refine w_wrN2 C fun w C => ?_)
        | (with_reducible refine ah_wrN3 ?_; refine w_wrN3 C fun w C => ?_)
      refine ok_fB rfl ?_
      repeat first
        | with_reducible refine ok_assoc ?_
        | with_reducible refine ok_retB ?_
        | (with_reducible refine ah_newC ?_; refine ok_newL C fun bq w C => ?_)
        | (with_reducible refine ah_ord ?_; refine ok_ordL C fun oq w C => ?_)
        | (with_reducible refine ah_draw ?_; refine ok_drawL C fun w C => ?_)
        | (with_reducible refine ah_ldA ?_; first | refine w_ldA1 C ?_ | refine w_ldA2 C ?_)
        | (with_reducible refine ah_ldA3 ?_; refine w_ldA3 C ?_)
        | (with_reducible refine ah_ldA4 ?_; refine w_ldA4 C ?_)
        | (with_reducible refine ah_ldN ?_; first | refine w_ldN1 C ?_ | refine w_ldN2 C ?_)
        | (with_reducible refine ah_ldN3 ?_; refine w_ldN3 C ?_)
        | (with_reducible refine ah_ldN4 ?_; refine w_ldN4 C ?_)
        | (with_reducible refine ah_chA ?_; first | refine w_chA1 C ?_ | refine w_chA2 C ?_)
        | (with_reducible refine ah_chA3 ?_; refine w_chA3 C ?_)
        | (with_reducible refine ah_chN ?_; first | refine w_chN1 C ?_ | refine w_chN2 C ?_)
        | (with_reducible refine ah_chN4 ?_; refine w_chN4 C ?_)
        | (with_reducible refine ah_wrA ?_; refine w_wrA1 C fun w C => ?_)
        | (with_reducible refine ah_wrN ?_; refine w_wrN1 C fun w C => ?_)
        | (with_reducible refine ah_wrN2 ?_; refine w_wrN2 C fun w C => ?_)
        | (with_reducible refine ah_wrN3 ?_; refine w_wrN3 C fun w C => ?_)
      refine ok_callL C (told_spec (C.arr (i := 0) (xs := nums .u32 (dw (nv a / 2 ^ (-k).toNat))) rfl) (dw_dg _) (by show y.len ≤ _; rw [NO.len hy]; omega) _) (fun r w' h => h.1) ?_
      rintro t w4 ⟨_, ht⟩ C
      rw [vw_dw, Int.toNat_natCast] at ht
      rw [hl, Bool.and_false]
      subst ht
      repeat first
        | with_reducible refine ok_assoc ?_
        | with_reducible refine ok_retB ?_
        | (with_reducible refine ah_newC ?_; refine ok_newL C fun bq w C => ?_)
        | (with_reducible refine ah_ord ?_; refine ok_ordL C fun oq w C => ?_)
        | (with_reducible refine ah_draw ?_; refine ok_drawL C fun w C => ?_)
        | (with_reducible refine ah_ldA ?_; first | refine w_ldA1 C ?_ | refine w_ldA2 C ?_)
        | (with_reducible refine ah_ldA3 ?_; refine w_ldA3 C ?_)
        | (with_reducible refine ah_ldA4 ?_; refine w_ldA4 C ?_)
        | (with_reducible refine ah_ldN ?_; first | refine w_ldN1 C ?_ | refine w_ldN2 C ?_)
        | (with_reducible refine ah_ldN3 ?_; refine w_ldN3 C ?_)
        | (with_reducible refine ah_ldN4 ?_; refine w_ldN4 C ?_)
        | (with_reducible refine ah_chA ?_; first | refine w_chA1 C ?_ | refine w_chA2 C ?_)
        | (with_reducible refine ah_chA3 ?_; refine w_chA3 C ?_)
        | (with_reducible refine ah_chN ?_; first | refine w_chN1 C ?_ | refine w_chN2 C ?_)
        | (with_reducible refine ah_chN4 ?_; refine w_chN4 C ?_)
        | (with_reducible refine ah_wrA ?_; refine w_wrA1 C fun w C => ?_)
        | (with_reducible refine ah_wrN ?_; refine w_wrN1 C fun w C => ?_)
        | (with_reducible refine ah_wrN2 ?_; refine w_wrN2 C fun w C => ?_)
        | (with_reducible refine ah_wrN3 ?_; refine w_wrN3 C fun w C => ?_)
      exact ok_ret.2 ⟨C.below, rfl⟩
end Go.Proofs.Ytoekfjgikicclaa
