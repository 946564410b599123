/-
  Part of the proof: L40. It states what the functions do; no further condition.
-/
import Derived.Test.YtoekfjgikicclaaL39
set_option linter.unusedVariables false
set_option linter.unusedSimpArgs false
namespace Go.Proofs.Ytoekfjgikicclaa
set_option linter.unusedVariables false
open Go.Sh Go.RowKit
set_option maxRecDepth 100000
/-! ### The document's answers: what may be; made; sums, differences, products, comparisons -/
theorem ah_str {γ : Type} {w : World} {Q : γ → World → Prop} {v : ByteArray} {f : Sl → M γ} (h : Ok (bnd (runV Try.prog .sl (convert 9 61 (.string v))) f) w Q) : Ok (bnd (runV Try.prog .sl (convert 9 61 (.string v))) f) w Q := h
theorem w_chA4 {S : Nat → Prop} {w0 w : World} {L : List It} {α : Type} {Q : α → World → Prop} (C : Cx S w0 w L) {i : Nat} {b : Nat} {n : Bool} {d : ByteArray} {f : Unit → M α} (hq : Ok (f ()) w Q) (hi : L[i]? = some (.cells b [.bool n, .string d]) := by first | exact Go.Sh.ix0 rfl | exact Go.Sh.ix1 rfl | exact Go.Sh.ix2 rfl | exact Go.Sh.ix3 rfl | exact Go.Sh.ix4 rfl | exact Go.Sh.ix5 rfl | exact Go.Sh.ix6 rfl | exact Go.Sh.ix7 rfl | exact Go.Sh.ix8 rfl | exact Go.Sh.ix9 rfl | exact Go.Sh.ix10 rfl | exact Go.Sh.ix11 rfl | exact Go.Sh.ix12 rfl | exact Go.Sh.ix13 rfl | exact Go.Sh.ix14 rfl | exact Go.Sh.ix15 rfl) : Ok (bnd (chk .str (Addr.add ⟨b, 0, none⟩ 1) d) f) w Q := ok_chkL C i hi rfl hq
theorem ah_chA4 {γ : Type} {w : World} {Q : γ → World → Prop} {a : Addr} {x : ByteArray} {f : Unit → M γ} (h : Ok (bnd (chk .str (Addr.add a 1) x) f) w Q) : Ok (bnd (chk .str (Addr.add a 1) x) f) w Q := h
theorem rcheck_is (a : Lg) : Is (f43_palaverref09_Check a) (ck a) := by
  intro wb
  unfold f43_palaverref09_Check ck
  obtain ⟨n, d⟩ := a
  have C := Cx.nil No wb
  repeat first
    | with_reducible refine ok_assoc ?_
    | with_reducible refine ok_retB ?_
    | (with_reducible refine ah_newC ?_; refine ok_newL C fun bq w C => ?_)
    | (with_reducible refine ah_ord ?_; refine ok_ordL C fun oq w C => ?_)
    | (with_reducible refine ah_draw ?_; refine ok_drawL C fun w C => ?_)
    | (with_reducible refine ah_ldA ?_; first | refine w_ldA1 C ?_ | refine w_ldA2 C ?_)
    | (with_reducible refine ah_ldA3 ?_; refine w_ldA3 C ?_)
    | (with_reducible refine ah_ldA4 ?_; refine w_ldA4 C ?_)
    | (with_reducible refine ah_chA ?_; first | refine w_chA1 C ?_ | refine w_chA2 C ?_)
    | (with_reducible refine ah_chA3 ?_; refine w_chA3 C ?_)
    | (with_reducible refine ah_wrA ?_; refine w_wrA1 C fun w C => ?_)
  dsimp only
  by_cases h1 : 4096 < d.size
  · refine ok_true (by simp only [gt_iff_lt, decide_eq_true_eq]; omega) (ok_ret.2 ⟨C.below, by rw [if_pos h1]⟩)
  refine ok_false (by simp only [gt_iff_lt, decide_eq_false_iff_not]; omega) ?_
  rw [if_neg h1]
  by_cases h2 : d.size = 0
  · rw [if_pos h2]
    refine ok_tB (by simp [h2]) ?_
    repeat first
      | with_reducible refine ok_assoc ?_
      | with_reducible refine ok_retB ?_
      | (with_reducible refine ah_newC ?_; refine ok_newL C fun bq w C => ?_)
      | (with_reducible refine ah_ord ?_; refine ok_ordL C fun oq w C => ?_)
      | (with_reducible refine ah_draw ?_; refine ok_drawL C fun w C => ?_)
      | (with_reducible refine ah_ldA ?_; first | refine w_ldA1 C ?_ | refine w_ldA2 C ?_)
      | (with_reducible refine ah_ldA3 ?_; refine w_ldA3 C ?_)
      | (with_reducible refine ah_ldA4 ?_; refine w_ldA4 C ?_)
      | (with_reducible refine ah_chA ?_; first | refine w_chA1 C ?_ | refine w_chA2 C ?_)
      | (with_reducible refine ah_chA3 ?_; refine w_chA3 C ?_)
      | (with_reducible refine ah_wrA ?_; refine w_wrA1 C fun w C => ?_)
    cases n
    · refine ok_fB rfl ?_
      refine ok_assoc (ok_fB (by simp [h2]) ?_)
      repeat first
        | with_reducible refine ok_assoc ?_
        | with_reducible refine ok_retB ?_
        | (with_reducible refine ah_newC ?_; refine ok_newL C fun bq w C => ?_)
        | (with_reducible refine ah_ord ?_; refine ok_ordL C fun oq w C => ?_)
        | (with_reducible refine ah_draw ?_; refine ok_drawL C fun w C => ?_)
        | (with_reducible refine ah_ldA ?_; first | refine w_ldA1 C ?_ | refine w_ldA2 C ?_)
        | (with_reducible refine ah_ldA3 ?_; refine w_ldA3 C ?_)
        | (with_reducible refine ah_ldA4 ?_; refine w_ldA4 C ?_)
        | (with_reducible refine ah_chA ?_; first | refine w_chA1 C ?_ | refine w_chA2 C ?_)
        | (with_reducible refine ah_chA3 ?_; refine w_chA3 C ?_)
        | (with_reducible refine ah_wrA ?_; refine w_wrA1 C fun w C => ?_)
      exact ok_false rfl (ok_ret.2 ⟨C.below, rfl⟩)
    · refine ok_tB rfl ?_
      repeat first
        | with_reducible refine ok_assoc ?_
        | with_reducible refine ok_retB ?_
        | (with_reducible refine ah_newC ?_; refine ok_newL C fun bq w C => ?_)
        | (with_reducible refine ah_ord ?_; refine ok_ordL C fun oq w C => ?_)
        | (with_reducible refine ah_draw ?_; refine ok_drawL C fun w C => ?_)
        | (with_reducible refine ah_ldA ?_; first | refine w_ldA1 C ?_ | refine w_ldA2 C ?_)
        | (with_reducible refine ah_ldA3 ?_; refine w_ldA3 C ?_)
        | (with_reducible refine ah_ldA4 ?_; refine w_ldA4 C ?_)
        | (with_reducible refine ah_chA ?_; first | refine w_chA1 C ?_ | refine w_chA2 C ?_)
        | (with_reducible refine ah_chA3 ?_; refine w_chA3 C ?_)
        | (with_reducible refine ah_wrA ?_; refine w_wrA1 C fun w C => ?_)
      exact ok_true rfl (ok_ret.2 ⟨C.below, rfl⟩)
  · rw [if_neg h2]
    refine ok_fB (by simp [h2]) ?_
    repeat first
      | with_reducible refine ok_assoc ?_
      | with_reducible refine ok_retB ?_
      | (with_reducible refine ah_newC ?_; refine ok_newL C fun bq w C => ?_)
      | (with_reducible refine ah_ord ?_; refine ok_ordL C fun oq w C => ?_)
      | (with_reducible refine ah_draw ?_; refine ok_drawL C fun w C => ?_)
      | (with_reducible refine ah_ldA ?_; first | refine w_ldA1 C ?_ | refine w_ldA2 C ?_)
      | (with_reducible refine ah_ldA3 ?_; refine w_ldA3 C ?_)
      | (with_reducible refine ah_ldA4 ?_; refine w_ldA4 C ?_)
      | (with_reducible refine ah_chA ?_; first | refine w_chA1 C ?_ | refine w_chA2 C ?_)
      | (with_reducible refine ah_chA3 ?_; refine w_chA3 C ?_)
      | (with_reducible refine ah_wrA ?_; refine w_wrA1 C fun w C => ?_)
    refine ok_fB rfl ?_
    refine ok_assoc (ok_tB (by simp only [gt_iff_lt, decide_eq_true_eq]; omega) ?_)
    repeat first
      | with_reducible refine ok_assoc ?_
      | with_reducible refine ok_retB ?_
      | (with_reducible refine ah_newC ?_; refine ok_newL C fun bq w C => ?_)
      | (with_reducible refine ah_ord ?_; refine ok_ordL C fun oq w C => ?_)
      | (with_reducible refine ah_draw ?_; refine ok_drawL C fun w C => ?_)
      | (with_reducible refine ah_ldA ?_; first | refine w_ldA1 C ?_ | refine w_ldA2 C ?_)
      | (with_reducible refine ah_ldA3 ?_; refine w_ldA3 C ?_)
      | (with_reducible refine ah_ldA4 ?_; refine w_ldA4 C ?_)
      | (with_reducible refine ah_chA ?_; first | refine w_chA1 C ?_ | refine w_chA2 C ?_)
      | (with_reducible refine ah_chA3 ?_; refine w_chA3 C ?_)
      | (with_reducible refine ah_wrA ?_; refine w_wrA1 C fun w C => ?_)
    have e1 : IntKind.wrap .i64 ((d.size : Int) - 1) = ((d.size - 1 : Nat) : Int) := by rw [wrapI_in (by omega)]; omega
    rw [e1]
    obtain ⟨t, ht⟩ := get_some (l := bl d) (i := d.size - 1) (by rw [bl_length]; omega)
    refine ok_ixB (by omega) (by rw [Int.toNat_natCast]; exact ht) ?_
    repeat first
      | with_reducible refine ok_assoc ?_
      | with_reducible refine ok_retB ?_
      | (with_reducible refine ah_newC ?_; refine ok_newL C fun bq w C => ?_)
      | (with_reducible refine ah_ord ?_; refine ok_ordL C fun oq w C => ?_)
      | (with_reducible refine ah_draw ?_; refine ok_drawL C fun w C => ?_)
      | (with_reducible refine ah_ldA ?_; first | refine w_ldA1 C ?_ | refine w_ldA2 C ?_)
      | (with_reducible refine ah_ldA3 ?_; refine w_ldA3 C ?_)
      | (with_reducible refine ah_ldA4 ?_; refine w_ldA4 C ?_)
      | (with_reducible refine ah_chA ?_; first | refine w_chA1 C ?_ | refine w_chA2 C ?_)
      | (with_reducible refine ah_chA3 ?_; refine w_chA3 C ?_)
      | (with_reducible refine ah_wrA ?_; refine w_wrA1 C fun w C => ?_)
    by_cases h3 : t = 0
    · subst h3
      rw [if_pos ht]
      exact ok_true rfl (ok_ret.2 ⟨C.below, rfl⟩)
    · rw [if_neg (by rw [ht]; simpa using h3)]
      exact ok_false (by simpa using h3) (ok_ret.2 ⟨C.below, rfl⟩)
theorem both_is (a b : Lg) : Is (f55_palaverref09_both a b) (ck2 a b) := by
  intro wb
  unfold f55_palaverref09_both ck2
  have C := Cx.nil No wb
  repeat first
    | with_reducible refine ok_assoc ?_
    | with_reducible refine ok_retB ?_
    | with_reducible refine ok_is C (rcheck_is _) fun w C => ?_
    | (with_reducible refine ah_newC ?_; refine ok_newL C fun bq w C => ?_)
    | (with_reducible refine ah_ord ?_; refine ok_ordL C fun oq w C => ?_)
    | (with_reducible refine ah_draw ?_; refine ok_drawL C fun w C => ?_)
    | (with_reducible refine ah_ldA ?_; first | refine w_ldA1 C ?_ | refine w_ldA2 C ?_)
    | (with_reducible refine ah_ldA3 ?_; refine w_ldA3 C ?_)
    | (with_reducible refine ah_ldA4 ?_; refine w_ldA4 C ?_)
    | (with_reducible refine ah_chA ?_; first | refine w_chA1 C ?_ | refine w_chA2 C ?_)
    | (with_reducible refine ah_chA3 ?_; refine w_chA3 C ?_)
    | (with_reducible refine ah_wrA ?_; refine w_wrA1 C fun w C => ?_)
  by_cases h : ck a = 0
  · rw [if_pos h]
    refine ok_false (by simpa using h) ?_
    repeat first
      | with_reducible refine ok_assoc ?_
      | with_reducible refine ok_retB ?_
      | with_reducible refine ok_is C (rcheck_is _) fun w C => ?_
      | (with_reducible refine ah_newC ?_; refine ok_newL C fun bq w C => ?_)
      | (with_reducible refine ah_ord ?_; refine ok_ordL C fun oq w C => ?_)
      | (with_reducible refine ah_draw ?_; refine ok_drawL C fun w C => ?_)
      | (with_reducible refine ah_ldA ?_; first | refine w_ldA1 C ?_ | refine w_ldA2 C ?_)
      | (with_reducible refine ah_ldA3 ?_; refine w_ldA3 C ?_)
      | (with_reducible refine ah_ldA4 ?_; refine w_ldA4 C ?_)
      | (with_reducible refine ah_chA ?_; first | refine w_chA1 C ?_ | refine w_chA2 C ?_)
      | (with_reducible refine ah_chA3 ?_; refine w_chA3 C ?_)
      | (with_reducible refine ah_wrA ?_; refine w_wrA1 C fun w C => ?_)
    exact ok_ret.2 ⟨C.below, rfl⟩
  · rw [if_neg h]
    exact ok_true (by simpa using h) (ok_ret.2 ⟨C.below, rfl⟩)
theorem made_spec {B : Nat} {wb : World} {x : Sl} {l : List Int} (H : A8 B wb x l) (hd : D8 l) (neg : Bool) : Ok (f57_palaverref09_made x neg) wb fun r w' => Below wb.heap.size wb w' ∧ r = toldZ (sv neg (v8 l)) := by
  unfold f57_palaverref09_made
  have C := Cx.nil No wb
  repeat first
    | with_reducible refine ok_assoc ?_
    | with_reducible refine ok_retB ?_
    | (with_reducible refine ah_newC ?_; refine ok_newL C fun bq w C => ?_)
    | (with_reducible refine ah_ord ?_; refine ok_ordL C fun oq w C => ?_)
    | (with_reducible refine ah_draw ?_; refine ok_drawL C fun w C => ?_)
    | (with_reducible refine ah_ldA ?_; first | refine w_ldA1 C ?_ | refine w_ldA2 C ?_)
    | (with_reducible refine ah_ldA3 ?_; refine w_ldA3 C ?_)
    | (with_reducible refine ah_ldA4 ?_; refine w_ldA4 C ?_)
    | (with_reducible refine ah_chA ?_; first | refine w_chA1 C ?_ | refine w_chA2 C ?_)
    | (with_reducible refine ah_chA3 ?_; refine w_chA3 C ?_)
    | (with_reducible refine ah_wrA ?_; refine w_wrA1 C fun w C => ?_)
  refine ok_bnd.2 (ok_mono (rtrim_arr (C.old (arr_size H)) hd) ?_)
  rintro r w1 ⟨rfl, hr, _, _⟩
  have hrl : r.len = (db (v8 l)).length := by have := hr.1; simpa using this
  have htz : toldZ (sv neg (v8 l)) = if 4096 < (db (v8 l)).length then (zr, 92) else (lg (sv neg (v8 l)), 0) := by
    unfold toldZ; rw [sv_natAbs]; rfl
  rw [htz]
  by_cases h : 4096 < (db (v8 l)).length
  · rw [if_pos h]
    refine ok_true (by simp only [gt_iff_lt, decide_eq_true_eq]; omega) ?_
    repeat first
      | with_reducible refine ok_assoc ?_
      | with_reducible refine ok_retB ?_
      | (with_reducible refine ah_newC ?_; refine ok_newL C fun bq w C => ?_)
      | (with_reducible refine ah_ord ?_; refine ok_ordL C fun oq w C => ?_)
      | (with_reducible refine ah_draw ?_; refine ok_drawL C fun w C => ?_)
      | (with_reducible refine ah_ldA ?_; first | refine w_ldA1 C ?_ | refine w_ldA2 C ?_)
      | (with_reducible refine ah_ldA3 ?_; refine w_ldA3 C ?_)
      | (with_reducible refine ah_ldA4 ?_; refine w_ldA4 C ?_)
      | (with_reducible refine ah_chA ?_; first | refine w_chA1 C ?_ | refine w_chA2 C ?_)
      | (with_reducible refine ah_chA3 ?_; refine w_chA3 C ?_)
      | (with_reducible refine ah_wrA ?_; refine w_wrA1 C fun w C => ?_)
    exact ok_ret.2 ⟨C.below, rfl⟩
  · rw [if_neg h]
    refine ok_false (by simp only [gt_iff_lt, decide_eq_false_iff_not]; omega) ?_
    refine ok_toStr slt61.under und5 und9 hr (dg_dgs h256 _) ?_
    repeat first
      | with_reducible refine ok_assoc ?_
      | with_reducible refine ok_retB ?_
      | (with_reducible refine ah_newC ?_; refine ok_newL C fun bq w C => ?_)
      | (with_reducible refine ah_ord ?_; refine ok_ordL C fun oq w C => ?_)
      | (with_reducible refine ah_draw ?_; refine ok_drawL C fun w C => ?_)
      | (with_reducible refine ah_ldA ?_; first | refine w_ldA1 C ?_ | refine w_ldA2 C ?_)
      | (with_reducible refine ah_ldA3 ?_; refine w_ldA3 C ?_)
      | (with_reducible refine ah_ldA4 ?_; refine w_ldA4 C ?_)
      | (with_reducible refine ah_chA ?_; first | refine w_chA1 C ?_ | refine w_chA2 C ?_)
      | (with_reducible refine ah_chA3 ?_; refine w_chA3 C ?_)
      | (with_reducible refine ah_wrA ?_; refine w_wrA1 C fun w C => ?_)
    refine ok_ret.2 ⟨C.below, ?_⟩
    rw [← lgN_sv]
    unfold lgN
    have : decide ((r.len : Int) > 0) = decide (v8 l ≠ 0) := by
      rw [decide_eq_decide]
      have := db_zero (n := v8 l)
      omega
    rw [this]
    cases neg <;> rfl
theorem v8_lg (z : Int) : v8 (db z.natAbs) = z.natAbs := v8_db _
theorem tb_max {z : Int} (h : ¬ tooBig z.natAbs) : (lg z).2.size ≤ maxLen := by
  have h1 := tb_size h
  have : maxLen = 9223372036854775807 := by decide
  omega
theorem tb_len {z : Int} (h : ¬ tooBig z.natAbs) : (db z.natAbs).length ≤ 4096 := by unfold tooBig at h; omega
theorem radd_is {x y : Int} (hx : ¬ tooBig x.natAbs) (hy : ¬ tooBig y.natAbs) : Is (f51_palaverref09_add (lg x) (lg y)) (toldZ (x + y)) := by
  intro wb
  unfold f51_palaverref09_add
  have C := Cx.nil No wb
  have lx := tb_len hx
  have ly := tb_len hy
  repeat first
    | with_reducible refine ok_assoc ?_
    | with_reducible refine ok_retB ?_
    | (with_reducible refine ah_newC ?_; refine ok_newL C fun bq w C => ?_)
    | (with_reducible refine ah_ord ?_; refine ok_ordL C fun oq w C => ?_)
    | (with_reducible refine ah_draw ?_; refine ok_drawL C fun w C => ?_)
    | (with_reducible refine ah_ldA ?_; first | refine w_ldA1 C ?_ | refine w_ldA2 C ?_)
    | (with_reducible refine ah_ldA3 ?_; refine w_ldA3 C ?_)
    | (with_reducible refine ah_ldA4 ?_; refine w_ldA4 C ?_)
    | (with_reducible refine ah_chA ?_; first | refine w_chA1 C ?_ | refine w_chA2 C ?_)
    | (with_reducible refine ah_chA3 ?_; refine w_chA3 C ?_)
    | (with_reducible refine ah_wrA ?_; refine w_wrA1 C fun w C => ?_)
  refine ok_toBytes C und9 slt61.under und5 (tb_max hx) fun vx w C hvx => ?_
  rw [bl_lg] at C
  repeat first
    | with_reducible refine ok_assoc ?_
    | with_reducible refine ok_retB ?_
    | (with_reducible refine ah_newC ?_; refine ok_newL C fun bq w C => ?_)
    | (with_reducible refine ah_ord ?_; refine ok_ordL C fun oq w C => ?_)
    | (with_reducible refine ah_draw ?_; refine ok_drawL C fun w C => ?_)
    | (with_reducible refine ah_ldA ?_; first | refine w_ldA1 C ?_ | refine w_ldA2 C ?_)
    | (with_reducible refine ah_ldA3 ?_; refine w_ldA3 C ?_)
    | (with_reducible refine ah_ldA4 ?_; refine w_ldA4 C ?_)
    | (with_reducible refine ah_chA ?_; first | refine w_chA1 C ?_ | refine w_chA2 C ?_)
    | (with_reducible refine ah_chA3 ?_; refine w_chA3 C ?_)
    | (with_reducible refine ah_wrA ?_; refine w_wrA1 C fun w C => ?_)
  refine ok_toBytes C und9 slt61.under und5 (tb_max hy) fun vy w C hvy => ?_
  rw [bl_lg] at C
  repeat first
    | with_reducible refine ok_assoc ?_
    | with_reducible refine ok_retB ?_
    | (with_reducible refine ah_newC ?_; refine ok_newL C fun bq w C => ?_)
    | (with_reducible refine ah_ord ?_; refine ok_ordL C fun oq w C => ?_)
    | (with_reducible refine ah_draw ?_; refine ok_drawL C fun w C => ?_)
    | (with_reducible refine ah_ldA ?_; first | refine w_ldA1 C ?_ | refine w_ldA2 C ?_)
    | (with_reducible refine ah_ldA3 ?_; refine w_ldA3 C ?_)
    | (with_reducible refine ah_ldA4 ?_; refine w_ldA4 C ?_)
    | (with_reducible refine ah_chA ?_; first | refine w_chA1 C ?_ | refine w_chA2 C ?_)
    | (with_reducible refine ah_chA3 ?_; refine w_chA3 C ?_)
    | (with_reducible refine ah_wrA ?_; refine w_wrA1 C fun w C => ?_)
  rw [lg_neg, lg_neg]
  by_cases hs : (x < 0 ↔ y < 0)
  · refine ok_true (by simpa using hs) ?_
    repeat first
      | with_reducible refine ok_assoc ?_
      | with_reducible refine ok_retB ?_
      | (with_reducible refine ah_newC ?_; refine ok_newL C fun bq w C => ?_)
      | (with_reducible refine ah_ord ?_; refine ok_ordL C fun oq w C => ?_)
      | (with_reducible refine ah_draw ?_; refine ok_drawL C fun w C => ?_)
      | (with_reducible refine ah_ldA ?_; first | refine w_ldA1 C ?_ | refine w_ldA2 C ?_)
      | (with_reducible refine ah_ldA3 ?_; refine w_ldA3 C ?_)
      | (with_reducible refine ah_ldA4 ?_; refine w_ldA4 C ?_)
      | (with_reducible refine ah_chA ?_; first | refine w_chA1 C ?_ | refine w_chA2 C ?_)
      | (with_reducible refine ah_chA3 ?_; refine w_chA3 C ?_)
      | (with_reducible refine ah_wrA ?_; refine w_wrA1 C fun w C => ?_)
    refine ok_callL C (plus_spec (a := db x.natAbs) (c := db y.natAbs) (C.arr (i := 1) rfl) (C.arr (i := 0) rfl) (dg_dgs h256 _) (dg_dgs h256 _) (by omega) (by omega)) (fun r w' h => h.1) ?_
    rintro r w1 ⟨hB, hr⟩ _
    rw [v8_db, v8_db] at hr
    replace C := C.addOwn hB hr
    clear hB hr
    repeat first
      | with_reducible refine ok_assoc ?_
      | with_reducible refine ok_retB ?_
      | (with_reducible refine ah_newC ?_; refine ok_newL C fun bq w C => ?_)
      | (with_reducible refine ah_ord ?_; refine ok_ordL C fun oq w C => ?_)
      | (with_reducible refine ah_draw ?_; refine ok_drawL C fun w C => ?_)
      | (with_reducible refine ah_ldA ?_; first | refine w_ldA1 C ?_ | refine w_ldA2 C ?_)
      | (with_reducible refine ah_ldA3 ?_; refine w_ldA3 C ?_)
      | (with_reducible refine ah_ldA4 ?_; refine w_ldA4 C ?_)
      | (with_reducible refine ah_chA ?_; first | refine w_chA1 C ?_ | refine w_chA2 C ?_)
      | (with_reducible refine ah_chA3 ?_; refine w_chA3 C ?_)
      | (with_reducible refine ah_wrA ?_; refine w_wrA1 C fun w C => ?_)
    refine ok_callL C (made_spec (l := db (x.natAbs + y.natAbs)) (C.arr (i := 0) rfl) (dg_dgs h256 _) _) (fun r w' h => h.1) ?_
    rintro t w2 ⟨_, ht⟩ C
    rw [v8_db, lg_neg] at ht
    have e : sv (decide (x < 0)) (x.natAbs + y.natAbs) = x + y := by
      unfold sv
      by_cases h : x < 0
      · rw [if_pos (by simpa using h)]; omega
      · rw [if_neg (by simpa using h)]; omega
    rw [e] at ht
    subst ht
    repeat first
      | with_reducible refine ok_assoc ?_
      | with_reducible refine ok_retB ?_
      | (with_reducible refine ah_newC ?_; refine ok_newL C fun bq w C => ?_)
      | (with_reducible refine ah_ord ?_; refine ok_ordL C fun oq w C => ?_)
      | (with_reducible refine ah_draw ?_; refine ok_drawL C fun w C => ?_)
      | (with_reducible refine ah_ldA ?_; first | refine w_ldA1 C ?_ | refine w_ldA2 C ?_)
      | (with_reducible refine ah_ldA3 ?_; refine w_ldA3 C ?_)
      | (with_reducible refine ah_ldA4 ?_; refine w_ldA4 C ?_)
      | (with_reducible refine ah_chA ?_; first | refine w_chA1 C ?_ | refine w_chA2 C ?_)
      | (with_reducible refine ah_chA3 ?_; refine w_chA3 C ?_)
      | (with_reducible refine ah_wrA ?_; refine w_wrA1 C fun w C => ?_)
    exact ok_ret.2 ⟨C.below, rfl⟩
  refine ok_false (by simpa using hs) ?_
  refine ok_bnd.2 (ok_mono (rcmp_spec (a := db x.natAbs) (c := db y.natAbs) (C.arr (i := 1) rfl) (C.arr (i := 0) rfl) (dg_dgs h256 _) (dg_dgs h256 _) (by omega) (by omega)) ?_)
  rintro _ w1 ⟨rfl, rfl⟩
  rw [v8_db, v8_db]
  by_cases hge : y.natAbs ≤ x.natAbs
  · refine ok_true (by unfold cmpN; rw [if_neg (by omega)]; split <;> rfl) ?_
    repeat first
      | with_reducible refine ok_assoc ?_
      | with_reducible refine ok_retB ?_
      | (with_reducible refine ah_newC ?_; refine ok_newL C fun bq w C => ?_)
      | (with_reducible refine ah_ord ?_; refine ok_ordL C fun oq w C => ?_)
      | (with_reducible refine ah_draw ?_; refine ok_drawL C fun w C => ?_)
      | (with_reducible refine ah_ldA ?_; first | refine w_ldA1 C ?_ | refine w_ldA2 C ?_)
      | (with_reducible refine ah_ldA3 ?_; refine w_ldA3 C ?_)
      | (with_reducible refine ah_ldA4 ?_; refine w_ldA4 C ?_)
      | (with_reducible refine ah_chA ?_; first | refine w_chA1 C ?_ | refine w_chA2 C ?_)
      | (with_reducible refine ah_chA3 ?_; refine w_chA3 C ?_)
      | (with_reducible refine ah_wrA ?_; refine w_wrA1 C fun w C => ?_)
    refine ok_callL C (minus_spec (a := db x.natAbs) (c := db y.natAbs) (C.arr (i := 1) rfl) (C.arr (i := 0) rfl) (dg_dgs h256 _) (dg_dgs h256 _) (by omega) (by omega) (by rw [v8_db, v8_db]; exact hge)) (fun r w' h => h.1) ?_
    rintro r w1 ⟨hB, hr⟩ _
    rw [v8_db, v8_db] at hr
    replace C := C.addOwn hB hr
    clear hB hr
    repeat first
      | with_reducible refine ok_assoc ?_
      | with_reducible refine ok_retB ?_
      | (with_reducible refine ah_newC ?_; refine ok_newL C fun bq w C => ?_)
      | (with_reducible refine ah_ord ?_; refine ok_ordL C fun oq w C => ?_)
      | (with_reducible refine ah_draw ?_; refine ok_drawL C fun w C => ?_)
      | (with_reducible refine ah_ldA ?_; first | refine w_ldA1 C ?_ | refine w_ldA2 C ?_)
      | (with_reducible refine ah_ldA3 ?_; refine w_ldA3 C ?_)
      | (with_reducible refine ah_ldA4 ?_; refine w_ldA4 C ?_)
      | (with_reducible refine ah_chA ?_; first | refine w_chA1 C ?_ | refine w_chA2 C ?_)
      | (with_reducible refine ah_chA3 ?_; refine w_chA3 C ?_)
      | (with_reducible refine ah_wrA ?_; refine w_wrA1 C fun w C => ?_)
    refine ok_callL C (made_spec (l := db (x.natAbs - y.natAbs)) (C.arr (i := 0) rfl) (dg_dgs h256 _) _) (fun r w' h => h.1) ?_
    rintro t w2 ⟨_, ht⟩ C
    rw [v8_db, lg_neg] at ht
    have e : sv (decide (x < 0)) (x.natAbs - y.natAbs) = x + y := by
      unfold sv
      by_cases h : x < 0
      · rw [if_pos (by simpa using h)]; omega
      · rw [if_neg (by simpa using h)]; omega
    rw [e] at ht
    subst ht
    repeat first
      | with_reducible refine ok_assoc ?_
      | with_reducible refine ok_retB ?_
      | (with_reducible refine ah_newC ?_; refine ok_newL C fun bq w C => ?_)
      | (with_reducible refine ah_ord ?_; refine ok_ordL C fun oq w C => ?_)
      | (with_reducible refine ah_draw ?_; refine ok_drawL C fun w C => ?_)
      | (with_reducible refine ah_ldA ?_; first | refine w_ldA1 C ?_ | refine w_ldA2 C ?_)
      | (with_reducible refine ah_ldA3 ?_; refine w_ldA3 C ?_)
      | (with_reducible refine ah_ldA4 ?_; refine w_ldA4 C ?_)
      | (with_reducible refine ah_chA ?_; first | refine w_chA1 C ?_ | refine w_chA2 C ?_)
      | (with_reducible refine ah_chA3 ?_; refine w_chA3 C ?_)
      | (with_reducible refine ah_wrA ?_; refine w_wrA1 C fun w C => ?_)
    exact ok_ret.2 ⟨C.below, rfl⟩
  · refine ok_false (by unfold cmpN; rw [if_pos (by omega)]; rfl) ?_
    repeat first
      | with_reducible refine ok_assoc ?_
      | with_reducible refine ok_retB ?_
      | (with_reducible refine ah_newC ?_; refine ok_newL C fun bq w C => ?_)
      | (with_reducible refine ah_ord ?_; refine ok_ordL C fun oq w C => ?_)
      | (with_reducible refine ah_draw ?_; refine ok_drawL C fun w C => ?_)
      | (with_reducible refine ah_ldA ?_; first | refine w_ldA1 C ?_ | refine w_ldA2 C ?_)
      | (with_reducible refine ah_ldA3 ?_; refine w_ldA3 C ?_)
      | (with_reducible refine ah_ldA4 ?_; refine w_ldA4 C ?_)
      | (with_reducible refine ah_chA ?_; first | refine w_chA1 C ?_ | refine w_chA2 C ?_)
      | (with_reducible refine ah_chA3 ?_; refine w_chA3 C ?_)
      | (with_reducible refine ah_wrA ?_; refine w_wrA1 C fun w C => ?_)
    refine ok_callL C (minus_spec (a := db y.natAbs) (c := db x.natAbs) (C.arr (i := 0) rfl) (C.arr (i := 1) rfl) (dg_dgs h256 _) (dg_dgs h256 _) (by omega) (by omega) (by rw [v8_db, v8_db]; omega)) (fun r w' h => h.1) ?_
    rintro r w1 ⟨hB, hr⟩ _
    rw [v8_db, v8_db] at hr
    replace C := C.addOwn hB hr
    clear hB hr
    repeat first
      | with_reducible refine ok_assoc ?_
      | with_reducible refine ok_retB ?_
      | (with_reducible refine ah_newC ?_; refine ok_newL C fun bq w C => ?_)
      | (with_reducible refine ah_ord ?_; refine ok_ordL C fun oq w C => ?_)
      | (with_reducible refine ah_draw ?_; refine ok_drawL C fun w C => ?_)
      | (with_reducible refine ah_ldA ?_; first | refine w_ldA1 C ?_ | refine w_ldA2 C ?_)
      | (with_reducible refine ah_ldA3 ?_; refine w_ldA3 C ?_)
      | (with_reducible refine ah_ldA4 ?_; refine w_ldA4 C ?_)
      | (with_reducible refine ah_chA ?_; first | refine w_chA1 C ?_ | refine w_chA2 C ?_)
      | (with_reducible refine ah_chA3 ?_; refine w_chA3 C ?_)
      | (with_reducible refine ah_wrA ?_; refine w_wrA1 C fun w C => ?_)
    refine ok_callL C (made_spec (l := db (y.natAbs - x.natAbs)) (C.arr (i := 0) rfl) (dg_dgs h256 _) _) (fun r w' h => h.1) ?_
    rintro t w2 ⟨_, ht⟩ C
    rw [v8_db, lg_neg] at ht
    have e : sv (decide (y < 0)) (y.natAbs - x.natAbs) = x + y := by
      unfold sv
      by_cases h : y < 0
      · rw [if_pos (by simpa using h)]; omega
      · rw [if_neg (by simpa using h)]; omega
    rw [e] at ht
    subst ht
    repeat first
      | with_reducible refine ok_assoc ?_
      | with_reducible refine ok_retB ?_
      | (with_reducible refine ah_newC ?_; refine ok_newL C fun bq w C => ?_)
      | (with_reducible refine ah_ord ?_; refine ok_ordL C fun oq w C => ?_)
      | (with_reducible refine ah_draw ?_; refine ok_drawL C fun w C => ?_)
      | (with_reducible refine ah_ldA ?_; first | refine w_ldA1 C ?_ | refine w_ldA2 C ?_)
      | (with_reducible refine ah_ldA3 ?_; refine w_ldA3 C ?_)
      | (with_reducible refine ah_ldA4 ?_; refine w_ldA4 C ?_)
      | (with_reducible refine ah_chA ?_; first | refine w_chA1 C ?_ | refine w_chA2 C ?_)
      | (with_reducible refine ah_chA3 ?_; refine w_chA3 C ?_)
      | (with_reducible refine ah_wrA ?_; refine w_wrA1 C fun w C => ?_)
    exact ok_ret.2 ⟨C.below, rfl⟩
theorem rneg_is (z : Int) : Is (f80_palaverref09_neg (lg z)) (lg (-z)) := by
  intro wb
  unfold f80_palaverref09_neg
  have C := Cx.nil No wb
  have e : lg (-z) = (!decide (z < 0) && decide (z ≠ 0), (lg z).2) := by
    unfold lg lgN
    rw [Int.natAbs_neg]
    refine Prod.ext ?_ rfl
    show (decide (-z < 0) && decide (z.natAbs ≠ 0)) = (!decide (z < 0) && decide (z ≠ 0))
    by_cases h1 : z < 0
    · simp [h1]; omega
    · by_cases h2 : z = 0
      · subst h2; simp
      · simp [h1, h2]; omega
  rw [e]
  repeat first
    | with_reducible refine ok_assoc ?_
    | with_reducible refine ok_retB ?_
    | (with_reducible refine ah_newC ?_; refine ok_newL C fun bq w C => ?_)
    | (with_reducible refine ah_ord ?_; refine ok_ordL C fun oq w C => ?_)
    | (with_reducible refine ah_draw ?_; refine ok_drawL C fun w C => ?_)
    | (with_reducible refine ah_ldA ?_; first | refine w_ldA1 C ?_ | refine w_ldA2 C ?_)
    | (with_reducible refine ah_ldA3 ?_; refine w_ldA3 C ?_)
    | (with_reducible refine ah_ldA4 ?_; refine w_ldA4 C ?_)
    | (with_reducible refine ah_chA ?_; first | refine w_chA1 C ?_ | refine w_chA2 C ?_)
    | (with_reducible refine ah_chA3 ?_; refine w_chA3 C ?_)
    | (with_reducible refine ah_wrA ?_; refine w_wrA1 C fun w C => ?_)
  rw [lg_neg]
  by_cases h : z < 0
  · refine ok_fB (by simp [h]) ?_
    repeat first
      | with_reducible refine ok_assoc ?_
      | with_reducible refine ok_retB ?_
      | (with_reducible refine ah_newC ?_; refine ok_newL C fun bq w C => ?_)
      | (with_reducible refine ah_ord ?_; refine ok_ordL C fun oq w C => ?_)
      | (with_reducible refine ah_draw ?_; refine ok_drawL C fun w C => ?_)
      | (with_reducible refine ah_ldA ?_; first | refine w_ldA1 C ?_ | refine w_ldA2 C ?_)
      | (with_reducible refine ah_ldA3 ?_; refine w_ldA3 C ?_)
      | (with_reducible refine ah_ldA4 ?_; refine w_ldA4 C ?_)
      | (with_reducible refine ah_chA ?_; first | refine w_chA1 C ?_ | refine w_chA2 C ?_)
      | (with_reducible refine ah_chA3 ?_; refine w_chA3 C ?_)
      | (with_reducible refine ah_wrA ?_; refine w_wrA1 C fun w C => ?_)
    exact ok_ret.2 ⟨C.below, by simp [h]⟩
  · refine ok_tB (by simp [h]) ?_
    repeat first
      | with_reducible refine ok_assoc ?_
      | with_reducible refine ok_retB ?_
      | (with_reducible refine ah_newC ?_; refine ok_newL C fun bq w C => ?_)
      | (with_reducible refine ah_ord ?_; refine ok_ordL C fun oq w C => ?_)
      | (with_reducible refine ah_draw ?_; refine ok_drawL C fun w C => ?_)
      | (with_reducible refine ah_ldA ?_; first | refine w_ldA1 C ?_ | refine w_ldA2 C ?_)
      | (with_reducible refine ah_ldA3 ?_; refine w_ldA3 C ?_)
      | (with_reducible refine ah_ldA4 ?_; refine w_ldA4 C ?_)
      | (with_reducible refine ah_chA ?_; first | refine w_chA1 C ?_ | refine w_chA2 C ?_)
      | (with_reducible refine ah_chA3 ?_; refine w_chA3 C ?_)
      | (with_reducible refine ah_wrA ?_; refine w_wrA1 C fun w C => ?_)
    refine ok_ret.2 ⟨C.below, ?_⟩
    have h2 := lg_empty z
    have : decide (((lg z).2.size : Int) > 0) = decide (z ≠ 0) := by
      rw [decide_eq_decide]; omega
    rw [this]
    simp [h]
theorem rAdd_is (a b : Lg) : Is (f45_palaverref09_Add a b) (addR a b) := by
  intro wb
  unfold f45_palaverref09_Add
  have C := Cx.nil No wb
  repeat first
    | with_reducible refine ok_assoc ?_
    | with_reducible refine ok_retB ?_
    | with_reducible refine ok_is C (both_is _ _) fun w C => ?_
    | (with_reducible refine ah_newC ?_; refine ok_newL C fun bq w C => ?_)
    | (with_reducible refine ah_ord ?_; refine ok_ordL C fun oq w C => ?_)
    | (with_reducible refine ah_draw ?_; refine ok_drawL C fun w C => ?_)
    | (with_reducible refine ah_ldA ?_; first | refine w_ldA1 C ?_ | refine w_ldA2 C ?_)
    | (with_reducible refine ah_ldA3 ?_; refine w_ldA3 C ?_)
    | (with_reducible refine ah_ldA4 ?_; refine w_ldA4 C ?_)
    | (with_reducible refine ah_chA ?_; first | refine w_chA1 C ?_ | refine w_chA2 C ?_)
    | (with_reducible refine ah_chA3 ?_; refine w_chA3 C ?_)
    | (with_reducible refine ah_wrA ?_; refine w_wrA1 C fun w C => ?_)
  by_cases h : ck2 a b = 0
  · obtain ⟨ha, hb⟩ := ck2_zero.1 h
    obtain ⟨x, rfl, hx⟩ := ck_ex ha
    obtain ⟨y, rfl, hy⟩ := ck_ex hb
    rw [addR_lg hx hy]
    refine ok_false (by simpa using h) ?_
    repeat first
      | with_reducible refine ok_assoc ?_
      | with_reducible refine ok_retB ?_
      | with_reducible refine ok_is C (radd_is hx hy) fun w C => ?_
      | (with_reducible refine ah_newC ?_; refine ok_newL C fun bq w C => ?_)
      | (with_reducible refine ah_ord ?_; refine ok_ordL C fun oq w C => ?_)
      | (with_reducible refine ah_draw ?_; refine ok_drawL C fun w C => ?_)
      | (with_reducible refine ah_ldA ?_; first | refine w_ldA1 C ?_ | refine w_ldA2 C ?_)
      | (with_reducible refine ah_ldA3 ?_; refine w_ldA3 C ?_)
      | (with_reducible refine ah_ldA4 ?_; refine w_ldA4 C ?_)
      | (with_reducible refine ah_chA ?_; first | refine w_chA1 C ?_ | refine w_chA2 C ?_)
      | (with_reducible refine ah_chA3 ?_; refine w_chA3 C ?_)
      | (with_reducible refine ah_wrA ?_; refine w_wrA1 C fun w C => ?_)
    exact ok_ret.2 ⟨C.below, rfl⟩
  · unfold addR
    rw [if_neg h]
    refine ok_true (by simpa using h) ?_
    repeat first
      | with_reducible refine ok_assoc ?_
      | with_reducible refine ok_retB ?_
      | (with_reducible refine ah_newC ?_; refine ok_newL C fun bq w C => ?_)
      | (with_reducible refine ah_ord ?_; refine ok_ordL C fun oq w C => ?_)
      | (with_reducible refine ah_draw ?_; refine ok_drawL C fun w C => ?_)
      | (with_reducible refine ah_ldA ?_; first | refine w_ldA1 C ?_ | refine w_ldA2 C ?_)
      | (with_reducible refine ah_ldA3 ?_; refine w_ldA3 C ?_)
      | (with_reducible refine ah_ldA4 ?_; refine w_ldA4 C ?_)
      | (with_reducible refine ah_chA ?_; first | refine w_chA1 C ?_ | refine w_chA2 C ?_)
      | (with_reducible refine ah_chA3 ?_; refine w_chA3 C ?_)
      | (with_reducible refine ah_wrA ?_; refine w_wrA1 C fun w C => ?_)
    exact ok_ret.2 ⟨C.below, rfl⟩
theorem rSub_is (a b : Lg) : Is (f46_palaverref09_Sub a b) (subR a b) := by
  intro wb
  unfold f46_palaverref09_Sub
  have C := Cx.nil No wb
  repeat first
    | with_reducible refine ok_assoc ?_
    | with_reducible refine ok_retB ?_
    | with_reducible refine ok_is C (both_is _ _) fun w C => ?_
    | (with_reducible refine ah_newC ?_; refine ok_newL C fun bq w C => ?_)
    | (with_reducible refine ah_ord ?_; refine ok_ordL C fun oq w C => ?_)
    | (with_reducible refine ah_draw ?_; refine ok_drawL C fun w C => ?_)
    | (with_reducible refine ah_ldA ?_; first | refine w_ldA1 C ?_ | refine w_ldA2 C ?_)
    | (with_reducible refine ah_ldA3 ?_; refine w_ldA3 C ?_)
    | (with_reducible refine ah_ldA4 ?_; refine w_ldA4 C ?_)
    | (with_reducible refine ah_chA ?_; first | refine w_chA1 C ?_ | refine w_chA2 C ?_)
    | (with_reducible refine ah_chA3 ?_; refine w_chA3 C ?_)
    | (with_reducible refine ah_wrA ?_; refine w_wrA1 C fun w C => ?_)
  by_cases h : ck2 a b = 0
  · obtain ⟨ha, hb⟩ := ck2_zero.1 h
    obtain ⟨x, rfl, hx⟩ := ck_ex ha
    obtain ⟨y, rfl, hy⟩ := ck_ex hb
    have k1 := radd_is hx (y := -y) (by rw [Int.natAbs_neg]; exact hy)
    rw [subR_lg hx hy]
    refine ok_false (by simpa using h) ?_
    repeat first
      | with_reducible refine ok_assoc ?_
      | with_reducible refine ok_retB ?_
      | with_reducible refine ok_is C (rneg_is y) fun w C => ?_
      | with_reducible refine ok_is C (k1) fun w C => ?_
      | (with_reducible refine ah_newC ?_; refine ok_newL C fun bq w C => ?_)
      | (with_reducible refine ah_ord ?_; refine ok_ordL C fun oq w C => ?_)
      | (with_reducible refine ah_draw ?_; refine ok_drawL C fun w C => ?_)
      | (with_reducible refine ah_ldA ?_; first | refine w_ldA1 C ?_ | refine w_ldA2 C ?_)
      | (with_reducible refine ah_ldA3 ?_; refine w_ldA3 C ?_)
      | (with_reducible refine ah_ldA4 ?_; refine w_ldA4 C ?_)
      | (with_reducible refine ah_chA ?_; first | refine w_chA1 C ?_ | refine w_chA2 C ?_)
      | (with_reducible refine ah_chA3 ?_; refine w_chA3 C ?_)
      | (with_reducible refine ah_wrA ?_; refine w_wrA1 C fun w C => ?_)
    exact ok_ret.2 ⟨C.below, rfl⟩
  · unfold subR
    rw [if_neg h]
    refine ok_true (by simpa using h) ?_
    repeat first
      | with_reducible refine ok_assoc ?_
      | with_reducible refine ok_retB ?_
      | (with_reducible refine ah_newC ?_; refine ok_newL C fun bq w C => ?_)
      | (with_reducible refine ah_ord ?_; refine ok_ordL C fun oq w C => ?_)
      | (with_reducible refine ah_draw ?_; refine ok_drawL C fun w C => ?_)
      | (with_reducible refine ah_ldA ?_; first | refine w_ldA1 C ?_ | refine w_ldA2 C ?_)
      | (with_reducible refine ah_ldA3 ?_; refine w_ldA3 C ?_)
      | (with_reducible refine ah_ldA4 ?_; refine w_ldA4 C ?_)
      | (with_reducible refine ah_chA ?_; first | refine w_chA1 C ?_ | refine w_chA2 C ?_)
      | (with_reducible refine ah_chA3 ?_; refine w_chA3 C ?_)
      | (with_reducible refine ah_wrA ?_; refine w_wrA1 C fun w C => ?_)
    exact ok_ret.2 ⟨C.below, rfl⟩
theorem rMul_is (a b : Lg) : Is (f47_palaverref09_Mul a b) (mulR a b) := by
  intro wb
  unfold f47_palaverref09_Mul
  have C := Cx.nil No wb
  repeat first
    | with_reducible refine ok_assoc ?_
    | with_reducible refine ok_retB ?_
    | with_reducible refine ok_is C (both_is _ _) fun w C => ?_
    | (with_reducible refine ah_newC ?_; refine ok_newL C fun bq w C => ?_)
    | (with_reducible refine ah_ord ?_; refine ok_ordL C fun oq w C => ?_)
    | (with_reducible refine ah_draw ?_; refine ok_drawL C fun w C => ?_)
    | (with_reducible refine ah_ldA ?_; first | refine w_ldA1 C ?_ | refine w_ldA2 C ?_)
    | (with_reducible refine ah_ldA3 ?_; refine w_ldA3 C ?_)
    | (with_reducible refine ah_ldA4 ?_; refine w_ldA4 C ?_)
    | (with_reducible refine ah_chA ?_; first | refine w_chA1 C ?_ | refine w_chA2 C ?_)
    | (with_reducible refine ah_chA3 ?_; refine w_chA3 C ?_)
    | (with_reducible refine ah_wrA ?_; refine w_wrA1 C fun w C => ?_)
  by_cases h : ck2 a b = 0
  rotate_left
  · unfold mulR
    rw [if_neg h]
    refine ok_true (by simpa using h) ?_
    repeat first
      | with_reducible refine ok_assoc ?_
      | with_reducible refine ok_retB ?_
      | (with_reducible refine ah_newC ?_; refine ok_newL C fun bq w C => ?_)
      | (with_reducible refine ah_ord ?_; refine ok_ordL C fun oq w C => ?_)
      | (with_reducible refine ah_draw ?_; refine ok_drawL C fun w C => ?_)
      | (with_reducible refine ah_ldA ?_; first | refine w_ldA1 C ?_ | refine w_ldA2 C ?_)
      | (with_reducible refine ah_ldA3 ?_; refine w_ldA3 C ?_)
      | (with_reducible refine ah_ldA4 ?_; refine w_ldA4 C ?_)
      | (with_reducible refine ah_chA ?_; first | refine w_chA1 C ?_ | refine w_chA2 C ?_)
      | (with_reducible refine ah_chA3 ?_; refine w_chA3 C ?_)
      | (with_reducible refine ah_wrA ?_; refine w_wrA1 C fun w C => ?_)
    exact ok_ret.2 ⟨C.below, rfl⟩
  obtain ⟨ha, hb⟩ := ck2_zero.1 h
  obtain ⟨x, rfl, hx⟩ := ck_ex ha
  obtain ⟨y, rfl, hy⟩ := ck_ex hb
  have lx := tb_len hx
  have ly := tb_len hy
  have es : ∀ n, sv (!((lg x).1 == (lg y).1)) n = sv (!(decide (x < 0) == decide (y < 0))) n := fun n => by rw [lg_neg, lg_neg]
  have exy : sv (!(decide (x < 0) == decide (y < 0))) (x.natAbs * y.natAbs) = x * y := by
    rw [sv_mul]
    congr 1
    · have := sv_lg x; rwa [lg_neg] at this
    · have := sv_lg y; rwa [lg_neg] at this
  rw [mulR_lg hx hy]
  refine ok_false (by simpa using h) ?_
  repeat first
    | with_reducible refine ok_assoc ?_
    | with_reducible refine ok_retB ?_
    | (with_reducible refine ah_newC ?_; refine ok_newL C fun bq w C => ?_)
    | (with_reducible refine ah_ord ?_; refine ok_ordL C fun oq w C => ?_)
    | (with_reducible refine ah_draw ?_; refine ok_drawL C fun w C => ?_)
    | (with_reducible refine ah_ldA ?_; first | refine w_ldA1 C ?_ | refine w_ldA2 C ?_)
    | (with_reducible refine ah_ldA3 ?_; refine w_ldA3 C ?_)
    | (with_reducible refine ah_ldA4 ?_; refine w_ldA4 C ?_)
    | (with_reducible refine ah_chA ?_; first | refine w_chA1 C ?_ | refine w_chA2 C ?_)
    | (with_reducible refine ah_chA3 ?_; refine w_chA3 C ?_)
    | (with_reducible refine ah_wrA ?_; refine w_wrA1 C fun w C => ?_)
  have fin : ∀ (i j : Nat) (w : World) (L : List It) (sx sy : Sl) {f : Sl → M ((Bool × ByteArray) × Int)} {Q : ((Bool × ByteArray) × Int) → World → Prop}, Cx No wb w L → L[i]? = some (.own sx (nums .u8 (db x.natAbs))) → L[j]? = some (.own sy (nums .u8 (db y.natAbs))) → (∀ r w', Cx No wb w' (.own r (nums .u8 (db (x.natAbs * y.natAbs))) :: L) → Ok (f r) w' Q) → Ok (bnd (f73_palaverref09_times sx sy) f) w Q := by
    intro i j w L sx sy f Q C hi hj hq
    refine ok_callL C (times_spec (a := db x.natAbs) (c := db y.natAbs) (C.arr hi) (C.arr hj) (dg_dgs h256 _) (dg_dgs h256 _) (by omega) (by omega)) (fun r w' h => h.1) ?_
    rintro r w1 ⟨hB, hr⟩ _
    rw [v8_db, v8_db] at hr
    exact hq r w1 (C.addOwn hB hr)
  cases hbf : bef oq 2 5
  · refine ok_fB rfl ?_
    refine ok_assoc (ok_toBytes C und9 slt61.under und5 (tb_max hy) fun vy w C hvy => ?_)
    rw [bl_lg] at C
    repeat first
      | with_reducible refine ok_assoc ?_
      | with_reducible refine ok_retB ?_
      | (with_reducible refine ah_chA4 ?_; refine w_chA4 C ?_)
      | (with_reducible refine ah_newC ?_; refine ok_newL C fun bq w C => ?_)
      | (with_reducible refine ah_ord ?_; refine ok_ordL C fun oq w C => ?_)
      | (with_reducible refine ah_draw ?_; refine ok_drawL C fun w C => ?_)
      | (with_reducible refine ah_ldA ?_; first | refine w_ldA1 C ?_ | refine w_ldA2 C ?_)
      | (with_reducible refine ah_ldA3 ?_; refine w_ldA3 C ?_)
      | (with_reducible refine ah_ldA4 ?_; refine w_ldA4 C ?_)
      | (with_reducible refine ah_chA ?_; first | refine w_chA1 C ?_ | refine w_chA2 C ?_)
      | (with_reducible refine ah_chA3 ?_; refine w_chA3 C ?_)
      | (with_reducible refine ah_wrA ?_; refine w_wrA1 C fun w C => ?_)
    refine ok_toBytes C und9 slt61.under und5 (tb_max hx) fun vx w C hvx => ?_
    rw [bl_lg] at C
    repeat first
      | with_reducible refine ok_assoc ?_
      | with_reducible refine ok_retB ?_
      | (with_reducible refine ah_newC ?_; refine ok_newL C fun bq w C => ?_)
      | (with_reducible refine ah_ord ?_; refine ok_ordL C fun oq w C => ?_)
      | (with_reducible refine ah_draw ?_; refine ok_drawL C fun w C => ?_)
      | (with_reducible refine ah_ldA ?_; first | refine w_ldA1 C ?_ | refine w_ldA2 C ?_)
      | (with_reducible refine ah_ldA3 ?_; refine w_ldA3 C ?_)
      | (with_reducible refine ah_ldA4 ?_; refine w_ldA4 C ?_)
      | (with_reducible refine ah_chA ?_; first | refine w_chA1 C ?_ | refine w_chA2 C ?_)
      | (with_reducible refine ah_chA3 ?_; refine w_chA3 C ?_)
      | (with_reducible refine ah_wrA ?_; refine w_wrA1 C fun w C => ?_)
    refine fin 0 1 _ _ _ _ C rfl rfl fun r w C => ?_
    repeat first
      | with_reducible refine ok_assoc ?_
      | with_reducible refine ok_retB ?_
      | (with_reducible refine ah_newC ?_; refine ok_newL C fun bq w C => ?_)
      | (with_reducible refine ah_ord ?_; refine ok_ordL C fun oq w C => ?_)
      | (with_reducible refine ah_draw ?_; refine ok_drawL C fun w C => ?_)
      | (with_reducible refine ah_ldA ?_; first | refine w_ldA1 C ?_ | refine w_ldA2 C ?_)
      | (with_reducible refine ah_ldA3 ?_; refine w_ldA3 C ?_)
      | (with_reducible refine ah_ldA4 ?_; refine w_ldA4 C ?_)
      | (with_reducible refine ah_chA ?_; first | refine w_chA1 C ?_ | refine w_chA2 C ?_)
      | (with_reducible refine ah_chA3 ?_; refine w_chA3 C ?_)
      | (with_reducible refine ah_wrA ?_; refine w_wrA1 C fun w C => ?_)
    refine ok_callL C (made_spec (l := db (x.natAbs * y.natAbs)) (C.arr (i := 0) rfl) (dg_dgs h256 _) _) (fun r w' h => h.1) ?_
    rintro t w2 ⟨_, ht⟩ C
    rw [v8_db, es, exy] at ht
    subst ht
    repeat first
      | with_reducible refine ok_assoc ?_
      | with_reducible refine ok_retB ?_
      | (with_reducible refine ah_newC ?_; refine ok_newL C fun bq w C => ?_)
      | (with_reducible refine ah_ord ?_; refine ok_ordL C fun oq w C => ?_)
      | (with_reducible refine ah_draw ?_; refine ok_drawL C fun w C => ?_)
      | (with_reducible refine ah_ldA ?_; first | refine w_ldA1 C ?_ | refine w_ldA2 C ?_)
      | (with_reducible refine ah_ldA3 ?_; refine w_ldA3 C ?_)
      | (with_reducible refine ah_ldA4 ?_; refine w_ldA4 C ?_)
      | (with_reducible refine ah_chA ?_; first | refine w_chA1 C ?_ | refine w_chA2 C ?_)
      | (with_reducible refine ah_chA3 ?_; refine w_chA3 C ?_)
      | (with_reducible refine ah_wrA ?_; refine w_wrA1 C fun w C => ?_)
    exact ok_ret.2 ⟨C.below, rfl⟩
  · refine ok_tB rfl ?_
    refine ok_assoc (ok_toBytes C und9 slt61.under und5 (tb_max hx) fun vx w C hvx => ?_)
    rw [bl_lg] at C
    repeat first
      | with_reducible refine ok_assoc ?_
      | with_reducible refine ok_retB ?_
      | (with_reducible refine ah_chA4 ?_; refine w_chA4 C ?_)
      | (with_reducible refine ah_newC ?_; refine ok_newL C fun bq w C => ?_)
      | (with_reducible refine ah_ord ?_; refine ok_ordL C fun oq w C => ?_)
      | (with_reducible refine ah_draw ?_; refine ok_drawL C fun w C => ?_)
      | (with_reducible refine ah_ldA ?_; first | refine w_ldA1 C ?_ | refine w_ldA2 C ?_)
      | (with_reducible refine ah_ldA3 ?_; refine w_ldA3 C ?_)
      | (with_reducible refine ah_ldA4 ?_; refine w_ldA4 C ?_)
      | (with_reducible refine ah_chA ?_; first | refine w_chA1 C ?_ | refine w_chA2 C ?_)
      | (with_reducible refine ah_chA3 ?_; refine w_chA3 C ?_)
      | (with_reducible refine ah_wrA ?_; refine w_wrA1 C fun w C => ?_)
    refine ok_toBytes C und9 slt61.under und5 (tb_max hy) fun vy w C hvy => ?_
    rw [bl_lg] at C
    repeat first
      | with_reducible refine ok_assoc ?_
      | with_reducible refine ok_retB ?_
      | (with_reducible refine ah_newC ?_; refine ok_newL C fun bq w C => ?_)
      | (with_reducible refine ah_ord ?_; refine ok_ordL C fun oq w C => ?_)
      | (with_reducible refine ah_draw ?_; refine ok_drawL C fun w C => ?_)
      | (with_reducible refine ah_ldA ?_; first | refine w_ldA1 C ?_ | refine w_ldA2 C ?_)
      | (with_reducible refine ah_ldA3 ?_; refine w_ldA3 C ?_)
      | (with_reducible refine ah_ldA4 ?_; refine w_ldA4 C ?_)
      | (with_reducible refine ah_chA ?_; first | refine w_chA1 C ?_ | refine w_chA2 C ?_)
      | (with_reducible refine ah_chA3 ?_; refine w_chA3 C ?_)
      | (with_reducible refine ah_wrA ?_; refine w_wrA1 C fun w C => ?_)
    refine fin 1 0 _ _ _ _ C rfl rfl fun r w C => ?_
    repeat first
      | with_reducible refine ok_assoc ?_
      | with_reducible refine ok_retB ?_
      | (with_reducible refine ah_newC ?_; refine ok_newL C fun bq w C => ?_)
      | (with_reducible refine ah_ord ?_; refine ok_ordL C fun oq w C => ?_)
      | (with_reducible refine ah_draw ?_; refine ok_drawL C fun w C => ?_)
      | (with_reducible refine ah_ldA ?_; first | refine w_ldA1 C ?_ | refine w_ldA2 C ?_)
      | (with_reducible refine ah_ldA3 ?_; refine w_ldA3 C ?_)
      | (with_reducible refine ah_ldA4 ?_; refine w_ldA4 C ?_)
      | (with_reducible refine ah_chA ?_; first | refine w_chA1 C ?_ | refine w_chA2 C ?_)
      | (with_reducible refine ah_chA3 ?_; refine w_chA3 C ?_)
      | (with_reducible refine ah_wrA ?_; refine w_wrA1 C fun w C => ?_)
    refine ok_callL C (made_spec (l := db (x.natAbs * y.natAbs)) (C.arr (i := 0) rfl) (dg_dgs h256 _) _) (fun r w' h => h.1) ?_
    rintro t w2 ⟨_, ht⟩ C
    rw [v8_db, es, exy] at ht
    subst ht
    repeat first
      | with_reducible refine ok_assoc ?_
      | with_reducible refine ok_retB ?_
      | (with_reducible refine ah_newC ?_; refine ok_newL C fun bq w C => ?_)
      | (with_reducible refine ah_ord ?_; refine ok_ordL C fun oq w C => ?_)
      | (with_reducible refine ah_draw ?_; refine ok_drawL C fun w C => ?_)
      | (with_reducible refine ah_ldA ?_; first | refine w_ldA1 C ?_ | refine w_ldA2 C ?_)
      | (with_reducible refine ah_ldA3 ?_; refine w_ldA3 C ?_)
      | (with_reducible refine ah_ldA4 ?_; refine w_ldA4 C ?_)
      | (with_reducible refine ah_chA ?_; first | refine w_chA1 C ?_ | refine w_chA2 C ?_)
      | (with_reducible refine ah_chA3 ?_; refine w_chA3 C ?_)
      | (with_reducible refine ah_wrA ?_; refine w_wrA1 C fun w C => ?_)
    exact ok_ret.2 ⟨C.below, rfl⟩
end Go.Proofs.Ytoekfjgikicclaa
