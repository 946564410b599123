/-
  Part of the proof: L21. It states what the functions do; no further condition.
-/
import Derived.Test.YtoekfjgikicclaaL20
set_option linter.unusedVariables false
set_option linter.unusedSimpArgs false
namespace Go.Proofs.Ytoekfjgikicclaa
set_option linter.unusedVariables false
open Go.Sh Go.RowKit
set_option maxRecDepth 100000
/-! ### Numbers with signs: sum and comparison; the exported Of, Cmp, Add, Sub, Mul -/
theorem nadd_spec {B B' : Nat} {w : World} {x y : Sl} {n m : Nat} (s t : Bool) (hx : NN B w x n) (hy : NN B' w y m) (lx : x.len ≤ 1000000) (ly : y.len ≤ 1000000) :
    Ok (f50_largeint_number_add (x, s) (y, t)) w fun r w' => Below w.heap.size w w' ∧ ∃ k, NO w.heap.size w' r.1 k ∧ sv r.2 k = sv s n + sv t m := by
  unfold f50_largeint_number_add
  dsimp only
  have C := Cx.nil No w
  repeat first
    | with_reducible refine ok_assoc ?_
    | with_reducible refine ok_retB ?_
    | (with_reducible refine ah_newC ?_; refine ok_newL C fun bq w C => ?_)
    | (with_reducible refine ah_ord ?_; refine ok_ordL C fun oq w C => ?_)
    | (with_reducible refine ah_draw ?_; refine ok_drawL C fun w C => ?_)
    | (with_reducible refine ah_ldA ?_; first | refine w_ldA1 C ?_ | refine w_ldA2 C ?_)
    | (with_reducible refine ah_ldA3 ?_; refine w_ldA3 C ?_)
    | (with_reducible refine ah_ldA4 ?_; refine w_ldA4 C ?_)
    | (with_reducible refine ah_ldN ?_; first | refine w_ldN1 C ?_ | refine w_ldN2 C ?_)
    | (with_reducible refine ah_ldN3 ?_; refine w_ldN3 C ?_)
    | (with_reducible refine ah_ldN4 ?_; refine w_ldN4 C ?_)
    | (with_reducible refine ah_chA ?_; first | refine w_chA1 C ?_ | refine w_chA2 C ?_)
    | (with_reducible refine ah_chA3 ?_; refine w_chA3 C ?_)
    | (with_reducible refine ah_chN ?_; first | refine w_chN1 C ?_ | refine w_chN2 C ?_)
    | (with_reducible refine ah_chN4 ?_; refine w_chN4 C ?_)
    | (with_reducible refine ah_wrA ?_; refine w_wrA1 C fun w C => ?_)
    | (with_reducible refine ah_wrN ?_; refine w_wrN1 C fun w C => ?_)
    | (with_reducible refine ah_wrN2 ?_; refine w_wrN2 C fun w C => ?_)
    | (with_reducible refine ah_wrN3 ?_; refine w_wrN3 C fun w C => ?_)
  have ex := hx.len
  have ey := hy.len
  by_cases hst : s = t
  · subst hst
    refine ok_true (by simp) ?_
    repeat first
      | with_reducible refine ok_assoc ?_
      | with_reducible refine ok_retB ?_
      | (with_reducible refine ah_newC ?_; refine ok_newL C fun bq w C => ?_)
      | (with_reducible refine ah_ord ?_; refine ok_ordL C fun oq w C => ?_)
      | (with_reducible refine ah_draw ?_; refine ok_drawL C fun w C => ?_)
      | (with_reducible refine ah_ldA ?_; first | refine w_ldA1 C ?_ | refine w_ldA2 C ?_)
      | (with_reducible refine ah_ldA3 ?_; refine w_ldA3 C ?_)
      | (with_reducible refine ah_ldA4 ?_; refine w_ldA4 C ?_)
      | (with_reducible refine ah_ldN ?_; first | refine w_ldN1 C ?_ | refine w_ldN2 C ?_)
      | (with_reducible refine ah_ldN3 ?_; refine w_ldN3 C ?_)
      | (with_reducible refine ah_ldN4 ?_; refine w_ldN4 C ?_)
      | (with_reducible refine ah_chA ?_; first | refine w_chA1 C ?_ | refine w_chA2 C ?_)
      | (with_reducible refine ah_chA3 ?_; refine w_chA3 C ?_)
      | (with_reducible refine ah_chN ?_; first | refine w_chN1 C ?_ | refine w_chN2 C ?_)
      | (with_reducible refine ah_chN4 ?_; refine w_chN4 C ?_)
      | (with_reducible refine ah_wrA ?_; refine w_wrA1 C fun w C => ?_)
      | (with_reducible refine ah_wrN ?_; refine w_wrN1 C fun w C => ?_)
      | (with_reducible refine ah_wrN2 ?_; refine w_wrN2 C fun w C => ?_)
      | (with_reducible refine ah_wrN3 ?_; refine w_wrN3 C fun w C => ?_)
    refine ok_callL C (add_spec (C.old hx.size) (C.old hy.size) (by omega) (by omega)) (fun r w' h => h.1) ?_
    rintro r w1 ⟨hB, hr⟩ _
    replace C := C.addOwn hB hr
    clear hB hr
    repeat first
      | with_reducible refine ok_assoc ?_
      | with_reducible refine ok_retB ?_
      | (with_reducible refine ah_newC ?_; refine ok_newL C fun bq w C => ?_)
      | (with_reducible refine ah_ord ?_; refine ok_ordL C fun oq w C => ?_)
      | (with_reducible refine ah_draw ?_; refine ok_drawL C fun w C => ?_)
      | (with_reducible refine ah_ldA ?_; first | refine w_ldA1 C ?_ | refine w_ldA2 C ?_)
      | (with_reducible refine ah_ldA3 ?_; refine w_ldA3 C ?_)
      | (with_reducible refine ah_ldA4 ?_; refine w_ldA4 C ?_)
      | (with_reducible refine ah_ldN ?_; first | refine w_ldN1 C ?_ | refine w_ldN2 C ?_)
      | (with_reducible refine ah_ldN3 ?_; refine w_ldN3 C ?_)
      | (with_reducible refine ah_ldN4 ?_; refine w_ldN4 C ?_)
      | (with_reducible refine ah_chA ?_; first | refine w_chA1 C ?_ | refine w_chA2 C ?_)
      | (with_reducible refine ah_chA3 ?_; refine w_chA3 C ?_)
      | (with_reducible refine ah_chN ?_; first | refine w_chN1 C ?_ | refine w_chN2 C ?_)
      | (with_reducible refine ah_chN4 ?_; refine w_chN4 C ?_)
      | (with_reducible refine ah_wrA ?_; refine w_wrA1 C fun w C => ?_)
      | (with_reducible refine ah_wrN ?_; refine w_wrN1 C fun w C => ?_)
      | (with_reducible refine ah_wrN2 ?_; refine w_wrN2 C fun w C => ?_)
      | (with_reducible refine ah_wrN3 ?_; refine w_wrN3 C fun w C => ?_)
    refine ok_ret.2 ⟨C.below, n + m, C.ret (i := 0) rfl, ?_⟩
    cases s <;> simp [sv] <;> omega
  · refine ok_false (by simpa using hst) ?_
    repeat first
      | with_reducible refine ok_assoc ?_
      | with_reducible refine ok_retB ?_
      | (with_reducible refine ah_newC ?_; refine ok_newL C fun bq w C => ?_)
      | (with_reducible refine ah_ord ?_; refine ok_ordL C fun oq w C => ?_)
      | (with_reducible refine ah_draw ?_; refine ok_drawL C fun w C => ?_)
      | (with_reducible refine ah_ldA ?_; first | refine w_ldA1 C ?_ | refine w_ldA2 C ?_)
      | (with_reducible refine ah_ldA3 ?_; refine w_ldA3 C ?_)
      | (with_reducible refine ah_ldA4 ?_; refine w_ldA4 C ?_)
      | (with_reducible refine ah_ldN ?_; first | refine w_ldN1 C ?_ | refine w_ldN2 C ?_)
      | (with_reducible refine ah_ldN3 ?_; refine w_ldN3 C ?_)
      | (with_reducible refine ah_ldN4 ?_; refine w_ldN4 C ?_)
      | (with_reducible refine ah_chA ?_; first | refine w_chA1 C ?_ | refine w_chA2 C ?_)
      | (with_reducible refine ah_chA3 ?_; refine w_chA3 C ?_)
      | (with_reducible refine ah_chN ?_; first | refine w_chN1 C ?_ | refine w_chN2 C ?_)
      | (with_reducible refine ah_chN4 ?_; refine w_chN4 C ?_)
      | (with_reducible refine ah_wrA ?_; refine w_wrA1 C fun w C => ?_)
      | (with_reducible refine ah_wrN ?_; refine w_wrN1 C fun w C => ?_)
      | (with_reducible refine ah_wrN2 ?_; refine w_wrN2 C fun w C => ?_)
      | (with_reducible refine ah_wrN3 ?_; refine w_wrN3 C fun w C => ?_)
    refine ok_callL C (cmp_spec (C.old hx.size) (C.old hy.size) (by omega) (by omega)) (fun r w' h => h.1) ?_
    rintro _ w1 ⟨hB, rfl⟩ C
    by_cases hlt : n < m
    · refine ok_tB (by simp [cmpN, hlt]) ?_
      repeat first
        | with_reducible refine ok_assoc ?_
        | with_reducible refine ok_retB ?_
        | (with_reducible refine ah_newC ?_; refine ok_newL C fun bq w C => ?_)
        | (with_reducible refine ah_ord ?_; refine ok_ordL C fun oq w C => ?_)
        | (with_reducible refine ah_draw ?_; refine ok_drawL C fun w C => ?_)
        | (with_reducible refine ah_ldA ?_; first | refine w_ldA1 C ?_ | refine w_ldA2 C ?_)
        | (with_reducible refine ah_ldA3 ?_; refine w_ldA3 C ?_)
        | (with_reducible refine ah_ldA4 ?_; refine w_ldA4 C ?_)
        | (with_reducible refine ah_ldN ?_; first | refine w_ldN1 C ?_ | refine w_ldN2 C ?_)
        | (with_reducible refine ah_ldN3 ?_; refine w_ldN3 C ?_)
        | (with_reducible refine ah_ldN4 ?_; refine w_ldN4 C ?_)
        | (with_reducible refine ah_chA ?_; first | refine w_chA1 C ?_ | refine w_chA2 C ?_)
        | (with_reducible refine ah_chA3 ?_; refine w_chA3 C ?_)
        | (with_reducible refine ah_chN ?_; first | refine w_chN1 C ?_ | refine w_chN2 C ?_)
        | (with_reducible refine ah_chN4 ?_; refine w_chN4 C ?_)
        | (with_reducible refine ah_wrA ?_; refine w_wrA1 C fun w C => ?_)
        | (with_reducible refine ah_wrN ?_; refine w_wrN1 C fun w C => ?_)
        | (with_reducible refine ah_wrN2 ?_; refine w_wrN2 C fun w C => ?_)
        | (with_reducible refine ah_wrN3 ?_; refine w_wrN3 C fun w C => ?_)
      refine ok_callL C (sub_spec (x := y) (y := x) (C.old hy.size) (C.old hx.size) (by omega) (by rw [ex, ey]; exact dw_len_mono (by omega)) (by omega)) (fun r w' h => h.1) ?_
      rintro r w1 ⟨hB, hr⟩ _
      replace C := C.addOwn hB hr
      clear hB hr
      repeat first
        | with_reducible refine ok_assoc ?_
        | with_reducible refine ok_retB ?_
        | (with_reducible refine ah_newC ?_; refine ok_newL C fun bq w C => ?_)
        | (with_reducible refine ah_ord ?_; refine ok_ordL C fun oq w C => ?_)
        | (with_reducible refine ah_draw ?_; refine ok_drawL C fun w C => ?_)
        | (with_reducible refine ah_ldA ?_; first | refine w_ldA1 C ?_ | refine w_ldA2 C ?_)
        | (with_reducible refine ah_ldA3 ?_; refine w_ldA3 C ?_)
        | (with_reducible refine ah_ldA4 ?_; refine w_ldA4 C ?_)
        | (with_reducible refine ah_ldN ?_; first | refine w_ldN1 C ?_ | refine w_ldN2 C ?_)
        | (with_reducible refine ah_ldN3 ?_; refine w_ldN3 C ?_)
        | (with_reducible refine ah_ldN4 ?_; refine w_ldN4 C ?_)
        | (with_reducible refine ah_chA ?_; first | refine w_chA1 C ?_ | refine w_chA2 C ?_)
        | (with_reducible refine ah_chA3 ?_; refine w_chA3 C ?_)
        | (with_reducible refine ah_chN ?_; first | refine w_chN1 C ?_ | refine w_chN2 C ?_)
        | (with_reducible refine ah_chN4 ?_; refine w_chN4 C ?_)
        | (with_reducible refine ah_wrA ?_; refine w_wrA1 C fun w C => ?_)
        | (with_reducible refine ah_wrN ?_; refine w_wrN1 C fun w C => ?_)
        | (with_reducible refine ah_wrN2 ?_; refine w_wrN2 C fun w C => ?_)
        | (with_reducible refine ah_wrN3 ?_; refine w_wrN3 C fun w C => ?_)
      refine ok_ret.2 ⟨C.below, m - n, C.ret (i := 0) rfl, ?_⟩
      cases s <;> cases t <;> simp [sv] at hst ⊢ <;> omega
    · refine ok_fB (by unfold cmpN; rw [if_neg hlt]; split <;> rfl) ?_
      repeat first
        | with_reducible refine ok_assoc ?_
        | with_reducible refine ok_retB ?_
        | (with_reducible refine ah_newC ?_; refine ok_newL C fun bq w C => ?_)
        | (with_reducible refine ah_ord ?_; refine ok_ordL C fun oq w C => ?_)
        | (with_reducible refine ah_draw ?_; refine ok_drawL C fun w C => ?_)
        | (with_reducible refine ah_ldA ?_; first | refine w_ldA1 C ?_ | refine w_ldA2 C ?_)
        | (with_reducible refine ah_ldA3 ?_; refine w_ldA3 C ?_)
        | (with_reducible refine ah_ldA4 ?_; refine w_ldA4 C ?_)
        | (with_reducible refine ah_ldN ?_; first | refine w_ldN1 C ?_ | refine w_ldN2 C ?_)
        | (with_reducible refine ah_ldN3 ?_; refine w_ldN3 C ?_)
        | (with_reducible refine ah_ldN4 ?_; refine w_ldN4 C ?_)
        | (with_reducible refine ah_chA ?_; first | refine w_chA1 C ?_ | refine w_chA2 C ?_)
        | (with_reducible refine ah_chA3 ?_; refine w_chA3 C ?_)
        | (with_reducible refine ah_chN ?_; first | refine w_chN1 C ?_ | refine w_chN2 C ?_)
        | (with_reducible refine ah_chN4 ?_; refine w_chN4 C ?_)
        | (with_reducible refine ah_wrA ?_; refine w_wrA1 C fun w C => ?_)
        | (with_reducible refine ah_wrN ?_; refine w_wrN1 C fun w C => ?_)
        | (with_reducible refine ah_wrN2 ?_; refine w_wrN2 C fun w C => ?_)
        | (with_reducible refine ah_wrN3 ?_; refine w_wrN3 C fun w C => ?_)
      refine ok_callL C (sub_spec (C.old hx.size) (C.old hy.size) (by omega) (by rw [ex, ey]; exact dw_len_mono (by omega)) (by omega)) (fun r w' h => h.1) ?_
      rintro r w1 ⟨hB, hr⟩ _
      replace C := C.addOwn hB hr
      clear hB hr
      repeat first
        | with_reducible refine ok_assoc ?_
        | with_reducible refine ok_retB ?_
        | (with_reducible refine ah_newC ?_; refine ok_newL C fun bq w C => ?_)
        | (with_reducible refine ah_ord ?_; refine ok_ordL C fun oq w C => ?_)
        | (with_reducible refine ah_draw ?_; refine ok_drawL C fun w C => ?_)
        | (with_reducible refine ah_ldA ?_; first | refine w_ldA1 C ?_ | refine w_ldA2 C ?_)
        | (with_reducible refine ah_ldA3 ?_; refine w_ldA3 C ?_)
        | (with_reducible refine ah_ldA4 ?_; refine w_ldA4 C ?_)
        | (with_reducible refine ah_ldN ?_; first | refine w_ldN1 C ?_ | refine w_ldN2 C ?_)
        | (with_reducible refine ah_ldN3 ?_; refine w_ldN3 C ?_)
        | (with_reducible refine ah_ldN4 ?_; refine w_ldN4 C ?_)
        | (with_reducible refine ah_chA ?_; first | refine w_chA1 C ?_ | refine w_chA2 C ?_)
        | (with_reducible refine ah_chA3 ?_; refine w_chA3 C ?_)
        | (with_reducible refine ah_chN ?_; first | refine w_chN1 C ?_ | refine w_chN2 C ?_)
        | (with_reducible refine ah_chN4 ?_; refine w_chN4 C ?_)
        | (with_reducible refine ah_wrA ?_; refine w_wrA1 C fun w C => ?_)
        | (with_reducible refine ah_wrN ?_; refine w_wrN1 C fun w C => ?_)
        | (with_reducible refine ah_wrN2 ?_; refine w_wrN2 C fun w C => ?_)
        | (with_reducible refine ah_wrN3 ?_; refine w_wrN3 C fun w C => ?_)
      refine ok_ret.2 ⟨C.below, n - m, C.ret (i := 0) rfl, ?_⟩
      cases s <;> cases t <;> simp [sv] at hst ⊢ <;> omega
def cmpZ (x y : Int) : Int := if x < y then -1 else if x = y then 0 else 1
theorem sv_zero_sign {s t : Bool} {n m : Nat} (h : n = 0 → s = false) (h' : m = 0 → t = false) : cmpZ (sv s n) (sv t m) = if s != t then (if s then -1 else 1) else if s then - cmpN n m else cmpN n m := by
  unfold cmpZ cmpN sv
  cases s <;> cases t <;> simp at h h' ⊢ <;> (repeat' split) <;> omega
theorem ncmp_spec {B B' : Nat} {w : World} {x y : Sl} {n m : Nat} (s t : Bool) (hx : NN B w x n) (hy : NN B' w y m) (lx : x.len ≤ 1000000) (ly : y.len ≤ 1000000) (hs : n = 0 → s = false) (ht : m = 0 → t = false) :
    Ok (f78_largeint_number_cmp (x, s) (y, t)) w fun r w' => Below w.heap.size w w' ∧ r = cmpZ (sv s n) (sv t m) := by
  unfold f78_largeint_number_cmp
  dsimp only
  rw [sv_zero_sign hs ht]
  have C := Cx.nil No w
  repeat first
    | with_reducible refine ok_assoc ?_
    | with_reducible refine ok_retB ?_
    | (with_reducible refine ah_newC ?_; refine ok_newL C fun bq w C => ?_)
    | (with_reducible refine ah_ord ?_; refine ok_ordL C fun oq w C => ?_)
    | (with_reducible refine ah_draw ?_; refine ok_drawL C fun w C => ?_)
    | (with_reducible refine ah_ldA ?_; first | refine w_ldA1 C ?_ | refine w_ldA2 C ?_)
    | (with_reducible refine ah_ldA3 ?_; refine w_ldA3 C ?_)
    | (with_reducible refine ah_ldA4 ?_; refine w_ldA4 C ?_)
    | (with_reducible refine ah_ldN ?_; first | refine w_ldN1 C ?_ | refine w_ldN2 C ?_)
    | (with_reducible refine ah_ldN3 ?_; refine w_ldN3 C ?_)
    | (with_reducible refine ah_ldN4 ?_; refine w_ldN4 C ?_)
    | (with_reducible refine ah_chA ?_; first | refine w_chA1 C ?_ | refine w_chA2 C ?_)
    | (with_reducible refine ah_chA3 ?_; refine w_chA3 C ?_)
    | (with_reducible refine ah_chN ?_; first | refine w_chN1 C ?_ | refine w_chN2 C ?_)
    | (with_reducible refine ah_chN4 ?_; refine w_chN4 C ?_)
    | (with_reducible refine ah_wrA ?_; refine w_wrA1 C fun w C => ?_)
    | (with_reducible refine ah_wrN ?_; refine w_wrN1 C fun w C => ?_)
    | (with_reducible refine ah_wrN2 ?_; refine w_wrN2 C fun w C => ?_)
    | (with_reducible refine ah_wrN3 ?_; refine w_wrN3 C fun w C => ?_)
  refine ok_callL C (cmp_spec (C.old hx.size) (C.old hy.size) (by omega) (by omega)) (fun r w' h => h.1) ?_
  rintro _ w1 ⟨hB, rfl⟩ C
  repeat first
    | with_reducible refine ok_assoc ?_
    | with_reducible refine ok_retB ?_
    | (with_reducible refine ah_newC ?_; refine ok_newL C fun bq w C => ?_)
    | (with_reducible refine ah_ord ?_; refine ok_ordL C fun oq w C => ?_)
    | (with_reducible refine ah_draw ?_; refine ok_drawL C fun w C => ?_)
    | (with_reducible refine ah_ldA ?_; first | refine w_ldA1 C ?_ | refine w_ldA2 C ?_)
    | (with_reducible refine ah_ldA3 ?_; refine w_ldA3 C ?_)
    | (with_reducible refine ah_ldA4 ?_; refine w_ldA4 C ?_)
    | (with_reducible refine ah_ldN ?_; first | refine w_ldN1 C ?_ | refine w_ldN2 C ?_)
    | (with_reducible refine ah_ldN3 ?_; refine w_ldN3 C ?_)
    | (with_reducible refine ah_ldN4 ?_; refine w_ldN4 C ?_)
    | (with_reducible refine ah_chA ?_; first | refine w_chA1 C ?_ | refine w_chA2 C ?_)
    | (with_reducible refine ah_chA3 ?_; refine w_chA3 C ?_)
    | (with_reducible refine ah_chN ?_; first | refine w_chN1 C ?_ | refine w_chN2 C ?_)
    | (with_reducible refine ah_chN4 ?_; refine w_chN4 C ?_)
    | (with_reducible refine ah_wrA ?_; refine w_wrA1 C fun w C => ?_)
    | (with_reducible refine ah_wrN ?_; refine w_wrN1 C fun w C => ?_)
    | (with_reducible refine ah_wrN2 ?_; refine w_wrN2 C fun w C => ?_)
    | (with_reducible refine ah_wrN3 ?_; refine w_wrN3 C fun w C => ?_)
  have hr : -1 ≤ cmpN n m ∧ cmpN n m ≤ 1 := by unfold cmpN; (repeat' split) <;> omega
  by_cases hst : s = t
  · subst hst
    refine ok_fB (by simp) ?_
    repeat first
      | with_reducible refine ok_assoc ?_
      | with_reducible refine ok_retB ?_
      | (with_reducible refine ah_newC ?_; refine ok_newL C fun bq w C => ?_)
      | (with_reducible refine ah_ord ?_; refine ok_ordL C fun oq w C => ?_)
      | (with_reducible refine ah_draw ?_; refine ok_drawL C fun w C => ?_)
      | (with_reducible refine ah_ldA ?_; first | refine w_ldA1 C ?_ | refine w_ldA2 C ?_)
      | (with_reducible refine ah_ldA3 ?_; refine w_ldA3 C ?_)
      | (with_reducible refine ah_ldA4 ?_; refine w_ldA4 C ?_)
      | (with_reducible refine ah_ldN ?_; first | refine w_ldN1 C ?_ | refine w_ldN2 C ?_)
      | (with_reducible refine ah_ldN3 ?_; refine w_ldN3 C ?_)
      | (with_reducible refine ah_ldN4 ?_; refine w_ldN4 C ?_)
      | (with_reducible refine ah_chA ?_; first | refine w_chA1 C ?_ | refine w_chA2 C ?_)
      | (with_reducible refine ah_chA3 ?_; refine w_chA3 C ?_)
      | (with_reducible refine ah_chN ?_; first | refine w_chN1 C ?_ | refine w_chN2 C ?_)
      | (with_reducible refine ah_chN4 ?_; refine w_chN4 C ?_)
      | (with_reducible refine ah_wrA ?_; refine w_wrA1 C fun w C => ?_)
      | (with_reducible refine ah_wrN ?_; refine w_wrN1 C fun w C => ?_)
      | (with_reducible refine ah_wrN2 ?_; refine w_wrN2 C fun w C => ?_)
      | (with_reducible refine ah_wrN3 ?_; refine w_wrN3 C fun w C => ?_)
    cases s
    · refine ok_fB rfl ?_
      repeat first
        | with_reducible refine ok_assoc ?_
        | with_reducible refine ok_retB ?_
        | (with_reducible refine ah_newC ?_; refine ok_newL C fun bq w C => ?_)
        | (with_reducible refine ah_ord ?_; refine ok_ordL C fun oq w C => ?_)
        | (with_reducible refine ah_draw ?_; refine ok_drawL C fun w C => ?_)
        | (with_reducible refine ah_ldA ?_; first | refine w_ldA1 C ?_ | refine w_ldA2 C ?_)
        | (with_reducible refine ah_ldA3 ?_; refine w_ldA3 C ?_)
        | (with_reducible refine ah_ldA4 ?_; refine w_ldA4 C ?_)
        | (with_reducible refine ah_ldN ?_; first | refine w_ldN1 C ?_ | refine w_ldN2 C ?_)
        | (with_reducible refine ah_ldN3 ?_; refine w_ldN3 C ?_)
        | (with_reducible refine ah_ldN4 ?_; refine w_ldN4 C ?_)
        | (with_reducible refine ah_chA ?_; first | refine w_chA1 C ?_ | refine w_chA2 C ?_)
        | (with_reducible refine ah_chA3 ?_; refine w_chA3 C ?_)
        | (with_reducible refine ah_chN ?_; first | refine w_chN1 C ?_ | refine w_chN2 C ?_)
        | (with_reducible refine ah_chN4 ?_; refine w_chN4 C ?_)
        | (with_reducible refine ah_wrA ?_; refine w_wrA1 C fun w C => ?_)
        | (with_reducible refine ah_wrN ?_; refine w_wrN1 C fun w C => ?_)
        | (with_reducible refine ah_wrN2 ?_; refine w_wrN2 C fun w C => ?_)
        | (with_reducible refine ah_wrN3 ?_; refine w_wrN3 C fun w C => ?_)
      exact ok_ret.2 ⟨C.below, by simp⟩
    · refine ok_tB rfl ?_
      repeat first
        | with_reducible refine ok_assoc ?_
        | with_reducible refine ok_retB ?_
        | (with_reducible refine ah_newC ?_; refine ok_newL C fun bq w C => ?_)
        | (with_reducible refine ah_ord ?_; refine ok_ordL C fun oq w C => ?_)
        | (with_reducible refine ah_draw ?_; refine ok_drawL C fun w C => ?_)
        | (with_reducible refine ah_ldA ?_; first | refine w_ldA1 C ?_ | refine w_ldA2 C ?_)
        | (with_reducible refine ah_ldA3 ?_; refine w_ldA3 C ?_)
        | (with_reducible refine ah_ldA4 ?_; refine w_ldA4 C ?_)
        | (with_reducible refine ah_ldN ?_; first | refine w_ldN1 C ?_ | refine w_ldN2 C ?_)
        | (with_reducible refine ah_ldN3 ?_; refine w_ldN3 C ?_)
        | (with_reducible refine ah_ldN4 ?_; refine w_ldN4 C ?_)
        | (with_reducible refine ah_chA ?_; first | refine w_chA1 C ?_ | refine w_chA2 C ?_)
        | (with_reducible refine ah_chA3 ?_; refine w_chA3 C ?_)
        | (with_reducible refine ah_chN ?_; first | refine w_chN1 C ?_ | refine w_chN2 C ?_)
        | (with_reducible refine ah_chN4 ?_; refine w_chN4 C ?_)
        | (with_reducible refine ah_wrA ?_; refine w_wrA1 C fun w C => ?_)
        | (with_reducible refine ah_wrN ?_; refine w_wrN1 C fun w C => ?_)
        | (with_reducible refine ah_wrN2 ?_; refine w_wrN2 C fun w C => ?_)
        | (with_reducible refine ah_wrN3 ?_; refine w_wrN3 C fun w C => ?_)
      refine ok_tB rfl ?_
      repeat first
        | with_reducible refine ok_assoc ?_
        | with_reducible refine ok_retB ?_
        | (with_reducible refine ah_newC ?_; refine ok_newL C fun bq w C => ?_)
        | (with_reducible refine ah_ord ?_; refine ok_ordL C fun oq w C => ?_)
        | (with_reducible refine ah_draw ?_; refine ok_drawL C fun w C => ?_)
        | (with_reducible refine ah_ldA ?_; first | refine w_ldA1 C ?_ | refine w_ldA2 C ?_)
        | (with_reducible refine ah_ldA3 ?_; refine w_ldA3 C ?_)
        | (with_reducible refine ah_ldA4 ?_; refine w_ldA4 C ?_)
        | (with_reducible refine ah_ldN ?_; first | refine w_ldN1 C ?_ | refine w_ldN2 C ?_)
        | (with_reducible refine ah_ldN3 ?_; refine w_ldN3 C ?_)
        | (with_reducible refine ah_ldN4 ?_; refine w_ldN4 C ?_)
        | (with_reducible refine ah_chA ?_; first | refine w_chA1 C ?_ | refine w_chA2 C ?_)
        | (with_reducible refine ah_chA3 ?_; refine w_chA3 C ?_)
        | (with_reducible refine ah_chN ?_; first | refine w_chN1 C ?_ | refine w_chN2 C ?_)
        | (with_reducible refine ah_chN4 ?_; refine w_chN4 C ?_)
        | (with_reducible refine ah_wrA ?_; refine w_wrA1 C fun w C => ?_)
        | (with_reducible refine ah_wrN ?_; refine w_wrN1 C fun w C => ?_)
        | (with_reducible refine ah_wrN2 ?_; refine w_wrN2 C fun w C => ?_)
        | (with_reducible refine ah_wrN3 ?_; refine w_wrN3 C fun w C => ?_)
      exact ok_ret.2 ⟨C.below, by rw [wrapI_in (by omega)]; simp⟩
  · refine ok_tB (by simpa using hst) ?_
    repeat first
      | with_reducible refine ok_assoc ?_
      | with_reducible refine ok_retB ?_
      | (with_reducible refine ah_newC ?_; refine ok_newL C fun bq w C => ?_)
      | (with_reducible refine ah_ord ?_; refine ok_ordL C fun oq w C => ?_)
      | (with_reducible refine ah_draw ?_; refine ok_drawL C fun w C => ?_)
      | (with_reducible refine ah_ldA ?_; first | refine w_ldA1 C ?_ | refine w_ldA2 C ?_)
      | (with_reducible refine ah_ldA3 ?_; refine w_ldA3 C ?_)
      | (with_reducible refine ah_ldA4 ?_; refine w_ldA4 C ?_)
      | (with_reducible refine ah_ldN ?_; first | refine w_ldN1 C ?_ | refine w_ldN2 C ?_)
      | (with_reducible refine ah_ldN3 ?_; refine w_ldN3 C ?_)
      | (with_reducible refine ah_ldN4 ?_; refine w_ldN4 C ?_)
      | (with_reducible refine ah_chA ?_; first | refine w_chA1 C ?_ | refine w_chA2 C ?_)
      | (with_reducible refine ah_chA3 ?_; refine w_chA3 C ?_)
      | (with_reducible refine ah_chN ?_; first | refine w_chN1 C ?_ | refine w_chN2 C ?_)
      | (with_reducible refine ah_chN4 ?_; refine w_chN4 C ?_)
      | (with_reducible refine ah_wrA ?_; refine w_wrA1 C fun w C => ?_)
      | (with_reducible refine ah_wrN ?_; refine w_wrN1 C fun w C => ?_)
      | (with_reducible refine ah_wrN2 ?_; refine w_wrN2 C fun w C => ?_)
      | (with_reducible refine ah_wrN3 ?_; refine w_wrN3 C fun w C => ?_)
    cases s
    · refine ok_fB rfl ?_
      repeat first
        | with_reducible refine ok_assoc ?_
        | with_reducible refine ok_retB ?_
        | (with_reducible refine ah_newC ?_; refine ok_newL C fun bq w C => ?_)
        | (with_reducible refine ah_ord ?_; refine ok_ordL C fun oq w C => ?_)
        | (with_reducible refine ah_draw ?_; refine ok_drawL C fun w C => ?_)
        | (with_reducible refine ah_ldA ?_; first | refine w_ldA1 C ?_ | refine w_ldA2 C ?_)
        | (with_reducible refine ah_ldA3 ?_; refine w_ldA3 C ?_)
        | (with_reducible refine ah_ldA4 ?_; refine w_ldA4 C ?_)
        | (with_reducible refine ah_ldN ?_; first | refine w_ldN1 C ?_ | refine w_ldN2 C ?_)
        | (with_reducible refine ah_ldN3 ?_; refine w_ldN3 C ?_)
        | (with_reducible refine ah_ldN4 ?_; refine w_ldN4 C ?_)
        | (with_reducible refine ah_chA ?_; first | refine w_chA1 C ?_ | refine w_chA2 C ?_)
        | (with_reducible refine ah_chA3 ?_; refine w_chA3 C ?_)
        | (with_reducible refine ah_chN ?_; first | refine w_chN1 C ?_ | refine w_chN2 C ?_)
        | (with_reducible refine ah_chN4 ?_; refine w_chN4 C ?_)
        | (with_reducible refine ah_wrA ?_; refine w_wrA1 C fun w C => ?_)
        | (with_reducible refine ah_wrN ?_; refine w_wrN1 C fun w C => ?_)
        | (with_reducible refine ah_wrN2 ?_; refine w_wrN2 C fun w C => ?_)
        | (with_reducible refine ah_wrN3 ?_; refine w_wrN3 C fun w C => ?_)
      refine ok_ret.2 ⟨C.below, ?_⟩
      cases t <;> simp at hst ⊢
    · refine ok_tB rfl ?_
      repeat first
        | with_reducible refine ok_assoc ?_
        | with_reducible refine ok_retB ?_
        | (with_reducible refine ah_newC ?_; refine ok_newL C fun bq w C => ?_)
        | (with_reducible refine ah_ord ?_; refine ok_ordL C fun oq w C => ?_)
        | (with_reducible refine ah_draw ?_; refine ok_drawL C fun w C => ?_)
        | (with_reducible refine ah_ldA ?_; first | refine w_ldA1 C ?_ | refine w_ldA2 C ?_)
        | (with_reducible refine ah_ldA3 ?_; refine w_ldA3 C ?_)
        | (with_reducible refine ah_ldA4 ?_; refine w_ldA4 C ?_)
        | (with_reducible refine ah_ldN ?_; first | refine w_ldN1 C ?_ | refine w_ldN2 C ?_)
        | (with_reducible refine ah_ldN3 ?_; refine w_ldN3 C ?_)
        | (with_reducible refine ah_ldN4 ?_; refine w_ldN4 C ?_)
        | (with_reducible refine ah_chA ?_; first | refine w_chA1 C ?_ | refine w_chA2 C ?_)
        | (with_reducible refine ah_chA3 ?_; refine w_chA3 C ?_)
        | (with_reducible refine ah_chN ?_; first | refine w_chN1 C ?_ | refine w_chN2 C ?_)
        | (with_reducible refine ah_chN4 ?_; refine w_chN4 C ?_)
        | (with_reducible refine ah_wrA ?_; refine w_wrA1 C fun w C => ?_)
        | (with_reducible refine ah_wrN ?_; refine w_wrN1 C fun w C => ?_)
        | (with_reducible refine ah_wrN2 ?_; refine w_wrN2 C fun w C => ?_)
        | (with_reducible refine ah_wrN3 ?_; refine w_wrN3 C fun w C => ?_)
      refine ok_ret.2 ⟨C.below, ?_⟩
      cases t <;> simp at hst ⊢
      rfl
theorem of_is {z : Int} (h1 : -9223372036854775808 ≤ z) (h2 : z ≤ 9223372036854775807) : Is (f37_largeint_Of z) (lg z) := by
  intro w
  unfold f37_largeint_Of
  have C := Cx.nil No w
  repeat first
    | with_reducible refine ok_assoc ?_
    | with_reducible refine ok_retB ?_
    | (with_reducible refine ah_newC ?_; refine ok_newL C fun bq w C => ?_)
    | (with_reducible refine ah_ord ?_; refine ok_ordL C fun oq w C => ?_)
    | (with_reducible refine ah_draw ?_; refine ok_drawL C fun w C => ?_)
    | (with_reducible refine ah_ldA ?_; first | refine w_ldA1 C ?_ | refine w_ldA2 C ?_)
    | (with_reducible refine ah_ldA3 ?_; refine w_ldA3 C ?_)
    | (with_reducible refine ah_ldA4 ?_; refine w_ldA4 C ?_)
    | (with_reducible refine ah_ldN ?_; first | refine w_ldN1 C ?_ | refine w_ldN2 C ?_)
    | (with_reducible refine ah_ldN3 ?_; refine w_ldN3 C ?_)
    | (with_reducible refine ah_ldN4 ?_; refine w_ldN4 C ?_)
    | (with_reducible refine ah_chA ?_; first | refine w_chA1 C ?_ | refine w_chA2 C ?_)
    | (with_reducible refine ah_chA3 ?_; refine w_chA3 C ?_)
    | (with_reducible refine ah_chN ?_; first | refine w_chN1 C ?_ | refine w_chN2 C ?_)
    | (with_reducible refine ah_chN4 ?_; refine w_chN4 C ?_)
    | (with_reducible refine ah_wrA ?_; refine w_wrA1 C fun w C => ?_)
    | (with_reducible refine ah_wrN ?_; refine w_wrN1 C fun w C => ?_)
    | (with_reducible refine ah_wrN2 ?_; refine w_wrN2 C fun w C => ?_)
    | (with_reducible refine ah_wrN3 ?_; refine w_wrN3 C fun w C => ?_)
  refine ok_bnd.2 (ok_mono (Q := fun t w' => w' = w ∧ t = ((z.natAbs : Nat) : Int)) ?_ ?_)
  · by_cases hz : z < 0
    · exact ok_true (by simpa using hz) (ok_ret.2 ⟨rfl, by rw [wrapU, wrapU]; omega⟩)
    · exact ok_false (by simpa using hz) (ok_ret.2 ⟨rfl, by rw [wrapU]; omega⟩)
  rintro _ _ ⟨rfl, rfl⟩
  generalize hX : z.natAbs = X
  have hX1 : X ≤ 9223372036854775808 := by omega
  have e1 : shrI .u64 (X : Int) 32 = ((X / 4294967296 : Nat) : Int) := by rw [shr_eq .u64 _ 32 (by decide)]; rfl
  rw [e1, wrapU32, wrapU32]
  have e2 : (X : Int) % 4294967296 = ((X % 4294967296 : Nat) : Int) := by omega
  have e3 : ((X / 4294967296 : Nat) : Int) % 4294967296 = ((X / 4294967296 : Nat) : Int) := by omega
  rw [e2, e3]
  refine ok_bnd.2 (ok_buildL2 slt50 _ _ rfl rfl ?_)
  replace C := C.buildN (e := 67) (vs := nums .u32 [((X % 4294967296 : Nat) : Int), ((X / 4294967296 : Nat) : Int)]) 2 rfl (by decide)
  refine ok_callL C (large_spec (C.arr (i := 0) rfl) (Dg.cons (Dg.cons Dg.nil (by omega) (by show _ < (4294967296 : Int); omega)) (by omega) (by show _ < (4294967296 : Int); omega)) (show 2 ≤ 1000000 by decide) (decide (z < 0))) (fun r w' h => h.1) ?_
  rintro _ w1 ⟨hB, rfl⟩ C
  repeat first
    | with_reducible refine ok_assoc ?_
    | with_reducible refine ok_retB ?_
    | (with_reducible refine ah_newC ?_; refine ok_newL C fun bq w C => ?_)
    | (with_reducible refine ah_ord ?_; refine ok_ordL C fun oq w C => ?_)
    | (with_reducible refine ah_draw ?_; refine ok_drawL C fun w C => ?_)
    | (with_reducible refine ah_ldA ?_; first | refine w_ldA1 C ?_ | refine w_ldA2 C ?_)
    | (with_reducible refine ah_ldA3 ?_; refine w_ldA3 C ?_)
    | (with_reducible refine ah_ldA4 ?_; refine w_ldA4 C ?_)
    | (with_reducible refine ah_ldN ?_; first | refine w_ldN1 C ?_ | refine w_ldN2 C ?_)
    | (with_reducible refine ah_ldN3 ?_; refine w_ldN3 C ?_)
    | (with_reducible refine ah_ldN4 ?_; refine w_ldN4 C ?_)
    | (with_reducible refine ah_chA ?_; first | refine w_chA1 C ?_ | refine w_chA2 C ?_)
    | (with_reducible refine ah_chA3 ?_; refine w_chA3 C ?_)
    | (with_reducible refine ah_chN ?_; first | refine w_chN1 C ?_ | refine w_chN2 C ?_)
    | (with_reducible refine ah_chN4 ?_; refine w_chN4 C ?_)
    | (with_reducible refine ah_wrA ?_; refine w_wrA1 C fun w C => ?_)
    | (with_reducible refine ah_wrN ?_; refine w_wrN1 C fun w C => ?_)
    | (with_reducible refine ah_wrN2 ?_; refine w_wrN2 C fun w C => ?_)
    | (with_reducible refine ah_wrN3 ?_; refine w_wrN3 C fun w C => ?_)
  refine ok_ret.2 ⟨C.below, ?_⟩
  have e4 : (vw [((X % 4294967296 : Nat) : Int), ((X / 4294967296 : Nat) : Int)]).toNat = X := by
    simp only [vw, vl, show ((BW : Nat) : Int) = 4294967296 from rfl]; omega
  rw [e4, ← hX]
  rfl
/-- What two numbers make, if both may be. -/
def if2 {α : Type} (a b : Lg) (e : Int → α) (r : α) : α := if ck2 a b = 0 then r else e (ck2 a b)
theorem cx_two {w0 w w' : World} {L : List It} {r : (Sl × Bool) × (Sl × Bool) × Int} {n m : Nat} (C : Cx No w0 w L) (D : Cx No w w' [.own r.2.1.1 (nums .u32 (dw m)), .own r.1.1 (nums .u32 (dw n))]) : Cx No w0 w' (.own r.2.1.1 (nums .u32 (dw m)) :: .own r.1.1 (nums .u32 (dw n)) :: L) := C.join D
theorem dw_len_ok {a : Lg} (h : ck a = 0) : (dw (nv a)).length ≤ 1024 := by
  have h1 := ck_lg h
  have h2 : (dgs BW (nv a)).length = _ := words_of (n := nv a) (s := (db (nv a)).length) rfl
  have h3 := h1.2.2
  unfold tooBig at h3
  unfold dw
  omega
theorem sign_zero {a : Lg} (h : ck a = 0) : nv a = 0 → a.1 = false := by
  intro hn
  have h1 := (ck_lg h).1
  rw [h1, lg_neg]
  have : iv a = 0 := by unfold iv sv; rw [hn]; split <;> rfl
  rw [this]; rfl
end Go.Proofs.Ytoekfjgikicclaa
