/-
  Part of the proof: L20. It states what the functions do; no further condition.
-/
import Derived.Test.YtoekfjgikicclaaL19
set_option linter.unusedVariables false
set_option linter.unusedSimpArgs false
namespace Go.Proofs.Ytoekfjgikicclaa
set_option linter.unusedVariables false
open Go.Sh Go.RowKit
set_option maxRecDepth 100000
/-! ### Large integers: told; two of them; sum and comparison with signs -/
theorem told_spec {B : Nat} {w : World} {s : Sl} {l : List Int} (H : Arr B w s (nums .u32 l)) (hd : DW l) (ls : s.len ≤ 1000000) (neg : Bool) :
    Ok (f48_largeint_told (s, neg)) w fun r w' => Below w.heap.size w w' ∧ r = toldZ (sv neg (vw l).toNat) := by
  unfold f48_largeint_told
  have C := Cx.nil No w
  have hA : ∀ {w' : World} {L : List It}, Cx No w w' L → Arr w.heap.size w' s (nums .u32 l) := fun C => arr_below (arr_size H) C.below
  repeat first
    | with_reducible refine ok_assoc ?_
    | with_reducible refine ok_retB ?_
    | (with_reducible refine ah_newC ?_; refine ok_newL C fun bq w C => ?_)
    | (with_reducible refine ah_ord ?_; refine ok_ordL C fun oq w C => ?_)
    | (with_reducible refine ah_draw ?_; refine ok_drawL C fun w C => ?_)
    | (with_reducible refine ah_ldA ?_; first | refine w_ldA1 C ?_ | refine w_ldA2 C ?_)
    | (with_reducible refine ah_ldA3 ?_; refine w_ldA3 C ?_)
    | (with_reducible refine ah_ldA4 ?_; refine w_ldA4 C ?_)
    | (with_reducible refine ah_ldN ?_; first | refine w_ldN1 C ?_ | refine w_ldN2 C ?_)
    | (with_reducible refine ah_ldN3 ?_; refine w_ldN3 C ?_)
    | (with_reducible refine ah_ldN4 ?_; refine w_ldN4 C ?_)
    | (with_reducible refine ah_chA ?_; first | refine w_chA1 C ?_ | refine w_chA2 C ?_)
    | (with_reducible refine ah_chA3 ?_; refine w_chA3 C ?_)
    | (with_reducible refine ah_chN ?_; first | refine w_chN1 C ?_ | refine w_chN2 C ?_)
    | (with_reducible refine ah_chN4 ?_; refine w_chN4 C ?_)
    | (with_reducible refine ah_wrA ?_; refine w_wrA1 C fun w C => ?_)
    | (with_reducible refine ah_wrN ?_; refine w_wrN1 C fun w C => ?_)
    | (with_reducible refine ah_wrN2 ?_; refine w_wrN2 C fun w C => ?_)
    | (with_reducible refine ah_wrN3 ?_; refine w_wrN3 C fun w C => ?_)
  refine ok_callL C (large_spec (hA C) hd ls neg) (fun r w' h => h.1) ?_
  rintro _ w ⟨_, rfl⟩ C
  repeat first
    | with_reducible refine ok_assoc ?_
    | with_reducible refine ok_retB ?_
    | (with_reducible refine ah_newC ?_; refine ok_newL C fun bq w C => ?_)
    | (with_reducible refine ah_ord ?_; refine ok_ordL C fun oq w C => ?_)
    | (with_reducible refine ah_draw ?_; refine ok_drawL C fun w C => ?_)
    | (with_reducible refine ah_ldA ?_; first | refine w_ldA1 C ?_ | refine w_ldA2 C ?_)
    | (with_reducible refine ah_ldA3 ?_; refine w_ldA3 C ?_)
    | (with_reducible refine ah_ldA4 ?_; refine w_ldA4 C ?_)
    | (with_reducible refine ah_ldN ?_; first | refine w_ldN1 C ?_ | refine w_ldN2 C ?_)
    | (with_reducible refine ah_ldN3 ?_; refine w_ldN3 C ?_)
    | (with_reducible refine ah_ldN4 ?_; refine w_ldN4 C ?_)
    | (with_reducible refine ah_chA ?_; first | refine w_chA1 C ?_ | refine w_chA2 C ?_)
    | (with_reducible refine ah_chA3 ?_; refine w_chA3 C ?_)
    | (with_reducible refine ah_chN ?_; first | refine w_chN1 C ?_ | refine w_chN2 C ?_)
    | (with_reducible refine ah_chN4 ?_; refine w_chN4 C ?_)
    | (with_reducible refine ah_wrA ?_; refine w_wrA1 C fun w C => ?_)
    | (with_reducible refine ah_wrN ?_; refine w_wrN1 C fun w C => ?_)
    | (with_reducible refine ah_wrN2 ?_; refine w_wrN2 C fun w C => ?_)
    | (with_reducible refine ah_wrN3 ?_; refine w_wrN3 C fun w C => ?_)
  have htz : toldZ (sv neg (vw l).toNat) = if 4096 < (db (vw l).toNat).length then (zr, 92) else (lg (sv neg (vw l).toNat), 0) := by
    unfold toldZ; rw [sv_natAbs]; rfl
  rw [htz]
  have hsz : (lgN neg (vw l).toNat).2.size = (db (vw l).toNat).length := mkB_size _
  by_cases h : 4096 < (db (vw l).toNat).length
  · refine ok_true (by rw [hsz]; simp only [gt_iff_lt, decide_eq_true_eq]; omega) ?_
    repeat first
      | with_reducible refine ok_assoc ?_
      | with_reducible refine ok_retB ?_
      | (with_reducible refine ah_newC ?_; refine ok_newL C fun bq w C => ?_)
      | (with_reducible refine ah_ord ?_; refine ok_ordL C fun oq w C => ?_)
      | (with_reducible refine ah_draw ?_; refine ok_drawL C fun w C => ?_)
      | (with_reducible refine ah_ldA ?_; first | refine w_ldA1 C ?_ | refine w_ldA2 C ?_)
      | (with_reducible refine ah_ldA3 ?_; refine w_ldA3 C ?_)
      | (with_reducible refine ah_ldA4 ?_; refine w_ldA4 C ?_)
      | (with_reducible refine ah_ldN ?_; first | refine w_ldN1 C ?_ | refine w_ldN2 C ?_)
      | (with_reducible refine ah_ldN3 ?_; refine w_ldN3 C ?_)
      | (with_reducible refine ah_ldN4 ?_; refine w_ldN4 C ?_)
      | (with_reducible refine ah_chA ?_; first | refine w_chA1 C ?_ | refine w_chA2 C ?_)
      | (with_reducible refine ah_chA3 ?_; refine w_chA3 C ?_)
      | (with_reducible refine ah_chN ?_; first | refine w_chN1 C ?_ | refine w_chN2 C ?_)
      | (with_reducible refine ah_chN4 ?_; refine w_chN4 C ?_)
      | (with_reducible refine ah_wrA ?_; refine w_wrA1 C fun w C => ?_)
      | (with_reducible refine ah_wrN ?_; refine w_wrN1 C fun w C => ?_)
      | (with_reducible refine ah_wrN2 ?_; refine w_wrN2 C fun w C => ?_)
      | (with_reducible refine ah_wrN3 ?_; refine w_wrN3 C fun w C => ?_)
    exact ok_ret.2 ⟨C.below, by rw [if_pos h]; rfl⟩
  · refine ok_false (by rw [hsz]; simp only [gt_iff_lt, decide_eq_false_iff_not]; omega) ?_
    repeat first
      | with_reducible refine ok_assoc ?_
      | with_reducible refine ok_retB ?_
      | (with_reducible refine ah_newC ?_; refine ok_newL C fun bq w C => ?_)
      | (with_reducible refine ah_ord ?_; refine ok_ordL C fun oq w C => ?_)
      | (with_reducible refine ah_draw ?_; refine ok_drawL C fun w C => ?_)
      | (with_reducible refine ah_ldA ?_; first | refine w_ldA1 C ?_ | refine w_ldA2 C ?_)
      | (with_reducible refine ah_ldA3 ?_; refine w_ldA3 C ?_)
      | (with_reducible refine ah_ldA4 ?_; refine w_ldA4 C ?_)
      | (with_reducible refine ah_ldN ?_; first | refine w_ldN1 C ?_ | refine w_ldN2 C ?_)
      | (with_reducible refine ah_ldN3 ?_; refine w_ldN3 C ?_)
      | (with_reducible refine ah_ldN4 ?_; refine w_ldN4 C ?_)
      | (with_reducible refine ah_chA ?_; first | refine w_chA1 C ?_ | refine w_chA2 C ?_)
      | (with_reducible refine ah_chA3 ?_; refine w_chA3 C ?_)
      | (with_reducible refine ah_chN ?_; first | refine w_chN1 C ?_ | refine w_chN2 C ?_)
      | (with_reducible refine ah_chN4 ?_; refine w_chN4 C ?_)
      | (with_reducible refine ah_wrA ?_; refine w_wrA1 C fun w C => ?_)
      | (with_reducible refine ah_wrN ?_; refine w_wrN1 C fun w C => ?_)
      | (with_reducible refine ah_wrN2 ?_; refine w_wrN2 C fun w C => ?_)
      | (with_reducible refine ah_wrN3 ?_; refine w_wrN3 C fun w C => ?_)
    exact ok_ret.2 ⟨C.below, by rw [if_neg h, ← lgN_sv]⟩
def ck2 (a b : Lg) : Int := if ck a = 0 then ck b else ck a
theorem ck2_zero {a b : Lg} : ck2 a b = 0 ↔ ck a = 0 ∧ ck b = 0 := by
  unfold ck2; split <;> simp_all
theorem ck_mk {a : Lg} (h : ck a = 0) : a.2 = mkB (db (nv a)) := by
  have h1 := (ck_lg h).1
  conv => lhs; rw [h1]
  unfold lg lgN
  rw [natAbs_iv]
theorem ck_size {a : Lg} (h : ck a = 0) : a.2.size ≤ 1000000 := by have := (ck_lg h).2.1; omega
theorem two_spec (a c : Lg) (w : World) : Ok (f52_largeint_two a c) w fun r w' => Below w.heap.size w w' ∧ r.2.2 = ck2 a c ∧ (ck2 a c = 0 → Cx No w w' [.own r.2.1.1 (nums .u32 (dw (nv c))), .own r.1.1 (nums .u32 (dw (nv a)))] ∧ r.1.2 = a.1 ∧ r.2.1.2 = c.1) := by
  unfold f52_largeint_two
  have C := Cx.nil No w
  repeat first
    | with_reducible refine ok_assoc ?_
    | with_reducible refine ok_retB ?_
    | refine ok_is C (check_is _) fun w C => ?_
    | (with_reducible refine ah_newC ?_; refine ok_newL C fun bq w C => ?_)
    | (with_reducible refine ah_ord ?_; refine ok_ordL C fun oq w C => ?_)
    | (with_reducible refine ah_draw ?_; refine ok_drawL C fun w C => ?_)
    | (with_reducible refine ah_ldA ?_; first | refine w_ldA1 C ?_ | refine w_ldA2 C ?_)
    | (with_reducible refine ah_ldA3 ?_; refine w_ldA3 C ?_)
    | (with_reducible refine ah_ldA4 ?_; refine w_ldA4 C ?_)
    | (with_reducible refine ah_ldN ?_; first | refine w_ldN1 C ?_ | refine w_ldN2 C ?_)
    | (with_reducible refine ah_ldN3 ?_; refine w_ldN3 C ?_)
    | (with_reducible refine ah_ldN4 ?_; refine w_ldN4 C ?_)
    | (with_reducible refine ah_chA ?_; first | refine w_chA1 C ?_ | refine w_chA2 C ?_)
    | (with_reducible refine ah_chA3 ?_; refine w_chA3 C ?_)
    | (with_reducible refine ah_chN ?_; first | refine w_chN1 C ?_ | refine w_chN2 C ?_)
    | (with_reducible refine ah_chN4 ?_; refine w_chN4 C ?_)
    | (with_reducible refine ah_wrA ?_; refine w_wrA1 C fun w C => ?_)
    | (with_reducible refine ah_wrN ?_; refine w_wrN1 C fun w C => ?_)
    | (with_reducible refine ah_wrN2 ?_; refine w_wrN2 C fun w C => ?_)
    | (with_reducible refine ah_wrN3 ?_; refine w_wrN3 C fun w C => ?_)
  unfold ck2
  by_cases h : ck a = 0
  · refine ok_tB (by rw [h]; rfl) ?_
    repeat first
      | with_reducible refine ok_assoc ?_
      | with_reducible refine ok_retB ?_
      | refine ok_is C (check_is _) fun w C => ?_
      | (with_reducible refine ah_newC ?_; refine ok_newL C fun bq w C => ?_)
      | (with_reducible refine ah_ord ?_; refine ok_ordL C fun oq w C => ?_)
      | (with_reducible refine ah_draw ?_; refine ok_drawL C fun w C => ?_)
      | (with_reducible refine ah_ldA ?_; first | refine w_ldA1 C ?_ | refine w_ldA2 C ?_)
      | (with_reducible refine ah_ldA3 ?_; refine w_ldA3 C ?_)
      | (with_reducible refine ah_ldA4 ?_; refine w_ldA4 C ?_)
      | (with_reducible refine ah_ldN ?_; first | refine w_ldN1 C ?_ | refine w_ldN2 C ?_)
      | (with_reducible refine ah_ldN3 ?_; refine w_ldN3 C ?_)
      | (with_reducible refine ah_ldN4 ?_; refine w_ldN4 C ?_)
      | (with_reducible refine ah_chA ?_; first | refine w_chA1 C ?_ | refine w_chA2 C ?_)
      | (with_reducible refine ah_chA3 ?_; refine w_chA3 C ?_)
      | (with_reducible refine ah_chN ?_; first | refine w_chN1 C ?_ | refine w_chN2 C ?_)
      | (with_reducible refine ah_chN4 ?_; refine w_chN4 C ?_)
      | (with_reducible refine ah_wrA ?_; refine w_wrA1 C fun w C => ?_)
      | (with_reducible refine ah_wrN ?_; refine w_wrN1 C fun w C => ?_)
      | (with_reducible refine ah_wrN2 ?_; refine w_wrN2 C fun w C => ?_)
      | (with_reducible refine ah_wrN3 ?_; refine w_wrN3 C fun w C => ?_)
    rw [if_pos h]
    by_cases h2 : ck c = 0
    · refine ok_false (by rw [h2]; rfl) ?_
      repeat first
        | with_reducible refine ok_assoc ?_
        | with_reducible refine ok_retB ?_
        | (with_reducible refine ah_newC ?_; refine ok_newL C fun bq w C => ?_)
        | (with_reducible refine ah_ord ?_; refine ok_ordL C fun oq w C => ?_)
        | (with_reducible refine ah_draw ?_; refine ok_drawL C fun w C => ?_)
        | (with_reducible refine ah_ldA ?_; first | refine w_ldA1 C ?_ | refine w_ldA2 C ?_)
        | (with_reducible refine ah_ldA3 ?_; refine w_ldA3 C ?_)
        | (with_reducible refine ah_ldA4 ?_; refine w_ldA4 C ?_)
        | (with_reducible refine ah_ldN ?_; first | refine w_ldN1 C ?_ | refine w_ldN2 C ?_)
        | (with_reducible refine ah_ldN3 ?_; refine w_ldN3 C ?_)
        | (with_reducible refine ah_ldN4 ?_; refine w_ldN4 C ?_)
        | (with_reducible refine ah_chA ?_; first | refine w_chA1 C ?_ | refine w_chA2 C ?_)
        | (with_reducible refine ah_chA3 ?_; refine w_chA3 C ?_)
        | (with_reducible refine ah_chN ?_; first | refine w_chN1 C ?_ | refine w_chN2 C ?_)
        | (with_reducible refine ah_chN4 ?_; refine w_chN4 C ?_)
        | (with_reducible refine ah_wrA ?_; refine w_wrA1 C fun w C => ?_)
        | (with_reducible refine ah_wrN ?_; refine w_wrN1 C fun w C => ?_)
        | (with_reducible refine ah_wrN2 ?_; refine w_wrN2 C fun w C => ?_)
        | (with_reducible refine ah_wrN3 ?_; refine w_wrN3 C fun w C => ?_)
      refine ok_join C (of_spec (ck_mk h) (ck_size h) _) (fun r w' h => h.1) ?_
      rintro ⟨r, r2⟩ w ⟨_, rfl⟩ C
      simp only [List.cons_append, List.nil_append] at C
      repeat first
        | with_reducible refine ok_assoc ?_
        | with_reducible refine ok_retB ?_
        | (with_reducible refine ah_newC ?_; refine ok_newL C fun bq w C => ?_)
        | (with_reducible refine ah_ord ?_; refine ok_ordL C fun oq w C => ?_)
        | (with_reducible refine ah_draw ?_; refine ok_drawL C fun w C => ?_)
        | (with_reducible refine ah_ldA ?_; first | refine w_ldA1 C ?_ | refine w_ldA2 C ?_)
        | (with_reducible refine ah_ldA3 ?_; refine w_ldA3 C ?_)
        | (with_reducible refine ah_ldA4 ?_; refine w_ldA4 C ?_)
        | (with_reducible refine ah_ldN ?_; first | refine w_ldN1 C ?_ | refine w_ldN2 C ?_)
        | (with_reducible refine ah_ldN3 ?_; refine w_ldN3 C ?_)
        | (with_reducible refine ah_ldN4 ?_; refine w_ldN4 C ?_)
        | (with_reducible refine ah_chA ?_; first | refine w_chA1 C ?_ | refine w_chA2 C ?_)
        | (with_reducible refine ah_chA3 ?_; refine w_chA3 C ?_)
        | (with_reducible refine ah_chN ?_; first | refine w_chN1 C ?_ | refine w_chN2 C ?_)
        | (with_reducible refine ah_chN4 ?_; refine w_chN4 C ?_)
        | (with_reducible refine ah_wrA ?_; refine w_wrA1 C fun w C => ?_)
        | (with_reducible refine ah_wrN ?_; refine w_wrN1 C fun w C => ?_)
        | (with_reducible refine ah_wrN2 ?_; refine w_wrN2 C fun w C => ?_)
        | (with_reducible refine ah_wrN3 ?_; refine w_wrN3 C fun w C => ?_)
      refine ok_join C (of_spec (ck_mk h2) (ck_size h2) _) (fun r w' h => h.1) ?_
      rintro ⟨t, t2⟩ w ⟨_, rfl⟩ C
      simp only [List.cons_append, List.nil_append] at C
      repeat first
        | with_reducible refine ok_assoc ?_
        | with_reducible refine ok_retB ?_
        | (with_reducible refine ah_newC ?_; refine ok_newL C fun bq w C => ?_)
        | (with_reducible refine ah_ord ?_; refine ok_ordL C fun oq w C => ?_)
        | (with_reducible refine ah_draw ?_; refine ok_drawL C fun w C => ?_)
        | (with_reducible refine ah_ldA ?_; first | refine w_ldA1 C ?_ | refine w_ldA2 C ?_)
        | (with_reducible refine ah_ldA3 ?_; refine w_ldA3 C ?_)
        | (with_reducible refine ah_ldA4 ?_; refine w_ldA4 C ?_)
        | (with_reducible refine ah_ldN ?_; first | refine w_ldN1 C ?_ | refine w_ldN2 C ?_)
        | (with_reducible refine ah_ldN3 ?_; refine w_ldN3 C ?_)
        | (with_reducible refine ah_ldN4 ?_; refine w_ldN4 C ?_)
        | (with_reducible refine ah_chA ?_; first | refine w_chA1 C ?_ | refine w_chA2 C ?_)
        | (with_reducible refine ah_chA3 ?_; refine w_chA3 C ?_)
        | (with_reducible refine ah_chN ?_; first | refine w_chN1 C ?_ | refine w_chN2 C ?_)
        | (with_reducible refine ah_chN4 ?_; refine w_chN4 C ?_)
        | (with_reducible refine ah_wrA ?_; refine w_wrA1 C fun w C => ?_)
        | (with_reducible refine ah_wrN ?_; refine w_wrN1 C fun w C => ?_)
        | (with_reducible refine ah_wrN2 ?_; refine w_wrN2 C fun w C => ?_)
        | (with_reducible refine ah_wrN3 ?_; refine w_wrN3 C fun w C => ?_)
      refine ok_ret.2 ⟨C.below, h2.symm, fun _ => ⟨?_, rfl, rfl⟩⟩
      exact C.pick [0, 1] (by simp)
    · refine ok_true (by simpa using h2) ?_
      repeat first
        | with_reducible refine ok_assoc ?_
        | with_reducible refine ok_retB ?_
        | (with_reducible refine ah_newC ?_; refine ok_newL C fun bq w C => ?_)
        | (with_reducible refine ah_ord ?_; refine ok_ordL C fun oq w C => ?_)
        | (with_reducible refine ah_draw ?_; refine ok_drawL C fun w C => ?_)
        | (with_reducible refine ah_ldA ?_; first | refine w_ldA1 C ?_ | refine w_ldA2 C ?_)
        | (with_reducible refine ah_ldA3 ?_; refine w_ldA3 C ?_)
        | (with_reducible refine ah_ldA4 ?_; refine w_ldA4 C ?_)
        | (with_reducible refine ah_ldN ?_; first | refine w_ldN1 C ?_ | refine w_ldN2 C ?_)
        | (with_reducible refine ah_ldN3 ?_; refine w_ldN3 C ?_)
        | (with_reducible refine ah_ldN4 ?_; refine w_ldN4 C ?_)
        | (with_reducible refine ah_chA ?_; first | refine w_chA1 C ?_ | refine w_chA2 C ?_)
        | (with_reducible refine ah_chA3 ?_; refine w_chA3 C ?_)
        | (with_reducible refine ah_chN ?_; first | refine w_chN1 C ?_ | refine w_chN2 C ?_)
        | (with_reducible refine ah_chN4 ?_; refine w_chN4 C ?_)
        | (with_reducible refine ah_wrA ?_; refine w_wrA1 C fun w C => ?_)
        | (with_reducible refine ah_wrN ?_; refine w_wrN1 C fun w C => ?_)
        | (with_reducible refine ah_wrN2 ?_; refine w_wrN2 C fun w C => ?_)
        | (with_reducible refine ah_wrN3 ?_; refine w_wrN3 C fun w C => ?_)
      exact ok_ret.2 ⟨C.below, rfl, fun h => absurd h h2⟩
  · refine ok_fB (by simpa using h) ?_
    repeat first
      | with_reducible refine ok_assoc ?_
      | with_reducible refine ok_retB ?_
      | (with_reducible refine ah_newC ?_; refine ok_newL C fun bq w C => ?_)
      | (with_reducible refine ah_ord ?_; refine ok_ordL C fun oq w C => ?_)
      | (with_reducible refine ah_draw ?_; refine ok_drawL C fun w C => ?_)
      | (with_reducible refine ah_ldA ?_; first | refine w_ldA1 C ?_ | refine w_ldA2 C ?_)
      | (with_reducible refine ah_ldA3 ?_; refine w_ldA3 C ?_)
      | (with_reducible refine ah_ldA4 ?_; refine w_ldA4 C ?_)
      | (with_reducible refine ah_ldN ?_; first | refine w_ldN1 C ?_ | refine w_ldN2 C ?_)
      | (with_reducible refine ah_ldN3 ?_; refine w_ldN3 C ?_)
      | (with_reducible refine ah_ldN4 ?_; refine w_ldN4 C ?_)
      | (with_reducible refine ah_chA ?_; first | refine w_chA1 C ?_ | refine w_chA2 C ?_)
      | (with_reducible refine ah_chA3 ?_; refine w_chA3 C ?_)
      | (with_reducible refine ah_chN ?_; first | refine w_chN1 C ?_ | refine w_chN2 C ?_)
      | (with_reducible refine ah_chN4 ?_; refine w_chN4 C ?_)
      | (with_reducible refine ah_wrA ?_; refine w_wrA1 C fun w C => ?_)
      | (with_reducible refine ah_wrN ?_; refine w_wrN1 C fun w C => ?_)
      | (with_reducible refine ah_wrN2 ?_; refine w_wrN2 C fun w C => ?_)
      | (with_reducible refine ah_wrN3 ?_; refine w_wrN3 C fun w C => ?_)
    rw [if_neg h]
    refine ok_true (by simpa using h) ?_
    repeat first
      | with_reducible refine ok_assoc ?_
      | with_reducible refine ok_retB ?_
      | (with_reducible refine ah_newC ?_; refine ok_newL C fun bq w C => ?_)
      | (with_reducible refine ah_ord ?_; refine ok_ordL C fun oq w C => ?_)
      | (with_reducible refine ah_draw ?_; refine ok_drawL C fun w C => ?_)
      | (with_reducible refine ah_ldA ?_; first | refine w_ldA1 C ?_ | refine w_ldA2 C ?_)
      | (with_reducible refine ah_ldA3 ?_; refine w_ldA3 C ?_)
      | (with_reducible refine ah_ldA4 ?_; refine w_ldA4 C ?_)
      | (with_reducible refine ah_ldN ?_; first | refine w_ldN1 C ?_ | refine w_ldN2 C ?_)
      | (with_reducible refine ah_ldN3 ?_; refine w_ldN3 C ?_)
      | (with_reducible refine ah_ldN4 ?_; refine w_ldN4 C ?_)
      | (with_reducible refine ah_chA ?_; first | refine w_chA1 C ?_ | refine w_chA2 C ?_)
      | (with_reducible refine ah_chA3 ?_; refine w_chA3 C ?_)
      | (with_reducible refine ah_chN ?_; first | refine w_chN1 C ?_ | refine w_chN2 C ?_)
      | (with_reducible refine ah_chN4 ?_; refine w_chN4 C ?_)
      | (with_reducible refine ah_wrA ?_; refine w_wrA1 C fun w C => ?_)
      | (with_reducible refine ah_wrN ?_; refine w_wrN1 C fun w C => ?_)
      | (with_reducible refine ah_wrN2 ?_; refine w_wrN2 C fun w C => ?_)
      | (with_reducible refine ah_wrN3 ?_; refine w_wrN3 C fun w C => ?_)
    exact ok_ret.2 ⟨C.below, rfl, fun h' => absurd h' h⟩
end Go.Proofs.Ytoekfjgikicclaa
