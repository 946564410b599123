/-
  Part of the proof: L31. It states what the functions do; no further condition.
-/
import Derived.Test.YtoekfjgikicclaaL30
set_option linter.unusedVariables false
set_option linter.unusedSimpArgs false
namespace Go.Proofs.Ytoekfjgikicclaa
set_option linter.unusedVariables false
open Go.Sh Go.RowKit
set_option maxRecDepth 100000
/-! ### The chapter's examples -/
theorem ck_small {z : Int} (h : z.natAbs < 18446744073709551616) : ck (lg z) = 0 := lg_ck (tb_small h)
theorem ck2_small {x y : Int} (h : x.natAbs < 18446744073709551616) (k : y.natAbs < 18446744073709551616) : ck2 (lg x) (lg y) = 0 := ck2_zero.2 ⟨ck_small h, ck_small k⟩
theorem told_small {z : Int} (h : z.natAbs < 18446744073709551616) : toldZ z = (lg z, 0) := by unfold toldZ; rw [if_neg (tb_small h)]
theorem ex_of (z : Int) (h1 : -1000 ≤ z) (h2 : z ≤ 1000) : Is (f37_largeint_Of z) (lg z) := of_is (by omega) (by omega)
theorem ex_div : Is (f14_largeint_Div (lg (-7)) (lg 2)) (lg (-4), lg 1, 0) := by
  have h := div_is (lg (-7)) (lg 2)
  unfold divR at h
  rw [if_pos (ck2_small (by decide) (by decide)), iv_lg, iv_lg, if_neg (by decide)] at h
  exact h
theorem ex_quo : Is (f16_largeint_Quo (lg (-7)) (lg 2)) (lg (-3), lg (-1), 0) := by
  have h := quo_is (lg (-7)) (lg 2)
  unfold quoR at h
  rw [if_pos (ck2_small (by decide) (by decide)), iv_lg, iv_lg, if_neg (by decide)] at h
  exact h
theorem ex_and : Is (f24_largeint_And (lg (-4)) (lg 7)) (lg 4, 0) := by
  have h := and_is (lg (-4)) (lg 7)
  unfold logR at h
  have e : logZ and (-4) 7 = 4 := logZ_eq fun i => by
    match i with
    | 0 => decide
    | 1 => decide
    | 2 => decide
    | i + 3 =>
      show zb 0 i = (zb (-1) i && zb 0 i)
      rw [zb_zero, Bool.and_false]
  rw [if_pos (ck2_small (by decide) (by decide)), iv_lg, iv_lg, e, told_small (by decide)] at h
  exact h
theorem ex_shift : Is (f30_largeint_Shift (lg (-5)) (-1)) (lg (-3), 0) := by
  have h := shift_is (lg (-5)) (k := -1) (by decide)
  unfold shiftR at h
  rw [if_pos (ck_small (by decide)), if_neg (by decide), iv_lg, show shlZ (-5) (-1) = -3 from by decide, told_small (by decide)] at h
  exact h
theorem ex_gcd : Is (f18_largeint_Gcd (lg (-12)) (lg 18)) (lg 6, 0) := by
  have h := gcd_is (lg (-12)) (lg 18)
  unfold gcdR at h
  rw [if_pos (ck2_small (by decide) (by decide)), nv_lg, nv_lg] at h
  exact h
theorem dgs_val {b n : Nat} (hb : 2 ≤ b) {l : List Int} (hd : Dg b l) (hc : Cn l) (h : vl b l = n) : dgs b n = l := by
  have := dgs_vl hb hd hc
  rw [h, Int.toNat_natCast] at this
  exact this
theorem ex_text : Is (f22_largeint_Text (lg 255) 2) (ByteArray.mk #[49, 49, 49, 49, 49, 49, 49, 49], 0) := by
  have h := text_is (lg 255) 2
  unfold textR at h
  have e : dgs 2 255 = [1, 1, 1, 1, 1, 1, 1, 1] := dgs_val (by decide) (by intro d hd; simp at hd; subst hd; decide) (by unfold Cn; decide) (by decide)
  have e2 : txtL (Int.toNat 2) 255 = [49, 49, 49, 49, 49, 49, 49, 49] := by
    unfold txtL
    rw [if_neg (by decide), if_neg (by decide), show (255 : Int).natAbs = 255 from rfl, show Int.toNat 2 = 2 from rfl, e]
    rfl
  rw [if_pos (ck_small (by decide)), if_neg (by decide), iv_lg, e2] at h
  exact h
theorem ex_parse : Is (f20_largeint_Parse (ByteArray.mk #[45, 70, 70]) 16) (lg (-255), 0) := by
  have h := parse_is (ByteArray.mk #[45, 70, 70]) (by decide) 16
  unfold parseR at h
  rw [if_neg (by decide), if_neg (by decide), show sv (pneg (bl (ByteArray.mk #[45, 70, 70]))) (pv (Int.toNat 16) (pbody (bl (ByteArray.mk #[45, 70, 70])))) = -255 from by decide, told_small (by decide)] at h
  exact h
theorem ex_parse2 : Is (f20_largeint_Parse (ByteArray.mk #[102, 102]) 16) (zr, 93) := by
  have h := parse_is (ByteArray.mk #[102, 102]) (by decide) 16
  unfold parseR at h
  rw [if_neg (by decide), if_pos (by decide)] at h
  exact h
theorem ex_div0 : Is (f14_largeint_Div (lg (-300)) (false, ByteArray.mk #[])) (zr, zr, 90) := by
  have h := div_is (lg (-300)) zr
  unfold divR at h
  rw [if_pos (ck2_zero.2 ⟨ck_small (by decide), by decide⟩), if_pos (by decide)] at h
  exact h
theorem ex_shift2 : Is (f30_largeint_Shift (lg (-300)) 32769) (zr, 91) := by
  have h := shift_is (lg (-300)) (k := 32769) (by decide)
  unfold shiftR at h
  rw [if_pos (ck_small (by decide)), if_pos (by decide)] at h
  exact h
theorem same_lg (x : Lg) : ((x.1 == x.1) && (strEq x.2 x.2)) = true := by rw [strEq_eq]; simp
theorem ex_300 : (((lg (-300)).1 == true) && (strEq (lg (-300)).2 (ByteArray.mk #[44, 1]))) = true := by
  have e : db 300 = [44, 1] := dgs_val (by decide) (by intro d hd; simp at hd; rcases hd with rfl | rfl <;> decide) (by unfold Cn; decide) (by decide)
  have e2 : lg (-300) = (true, ByteArray.mk #[44, 1]) := by
    unfold lg lgN
    rw [show (-300 : Int).natAbs = 300 from rfl, e]; rfl
  rw [e2, strEq_eq]; simp
theorem ah_of {α : Type} {z : Int} {f : Lg → M α} {w : World} {Q : α → World → Prop} (h : Ok (bnd (f37_largeint_Of z) f) w Q) : Ok (bnd (f37_largeint_Of z) f) w Q := h
theorem ah_cnd {α β : Type} {b : Bool} {m n : M β} {f : β → M α} {w : World} {Q : α → World → Prop} (h : Ok (bnd (cnd b m n) f) w Q) : Ok (bnd (cnd b m n) f) w Q := h
theorem ex_1s : strEq (ByteArray.mk #[49, 49, 49, 49, 49, 49, 49, 49]) (ByteArray.mk #[49, 49, 49, 49, 49, 49, 49, 49]) = true := by rw [strEq_eq]; simp
theorem works_is : Is f12_palaverlaw09_works true := by
  intro wb
  unfold f12_palaverlaw09_works
  have C := Cx.nil No wb
  repeat first
    | with_reducible refine ok_assoc ?_
    | with_reducible refine ok_retB ?_
    | (with_reducible refine ah_of ?_; refine ok_is C (ex_of _ (by decide) (by decide)) fun w C => ?_)
    | with_reducible refine ok_is C ex_div fun w C => ?_
    | with_reducible refine ok_is C ex_quo fun w C => ?_
    | with_reducible refine ok_is C ex_and fun w C => ?_
    | with_reducible refine ok_is C ex_shift fun w C => ?_
    | with_reducible refine ok_is C ex_gcd fun w C => ?_
    | with_reducible refine ok_is C ex_text fun w C => ?_
    | with_reducible refine ok_is C ex_parse fun w C => ?_
    | with_reducible refine ok_is C ex_parse2 fun w C => ?_
    | with_reducible refine ok_is C ex_div0 fun w C => ?_
    | with_reducible refine ok_is C ex_shift2 fun w C => ?_
    | with_reducible refine ok_tB (same_lg _) ?_
    | with_reducible refine ok_tB ex_300 ?_
    | (with_reducible refine ah_cnd ?_; refine ok_tB (by decide) ?_)
    | (with_reducible refine ah_cnd ?_; refine ok_tB ex_1s ?_)
    | (with_reducible refine ah_newC ?_; refine ok_newL C fun bq w C => ?_)
    | (with_reducible refine ah_ord ?_; refine ok_ordL C fun oq w C => ?_)
    | (with_reducible refine ah_draw ?_; refine ok_drawL C fun w C => ?_)
    | (with_reducible refine ah_ldA ?_; first | refine w_ldA1 C ?_ | refine w_ldA2 C ?_)
    | (with_reducible refine ah_ldA3 ?_; refine w_ldA3 C ?_)
    | (with_reducible refine ah_ldA4 ?_; refine w_ldA4 C ?_)
    | (with_reducible refine ah_chA ?_; first | refine w_chA1 C ?_ | refine w_chA2 C ?_)
    | (with_reducible refine ah_chA3 ?_; refine w_chA3 C ?_)
    | (with_reducible refine ah_wrA ?_; refine w_wrA1 C fun w C => ?_)
  exact ok_ret.2 ⟨C.below, rfl⟩
end Go.Proofs.Ytoekfjgikicclaa
