/-
  Part of the proof: L33. It states what the functions do; no further condition.
-/
import Derived.Test.YtoekfjgikicclaaL32
set_option linter.unusedVariables false
set_option linter.unusedSimpArgs false
namespace Go.Proofs.Ytoekfjgikicclaa
set_option linter.unusedVariables false
open Go.Sh Go.RowKit
set_option maxRecDepth 100000
variable {α : Type} {S : Nat → Prop} {w0 w : World} {L : List It} {Q : α → World → Prop}
/-- A number and -1 put together, in whatever order Go does it. -/
theorem reg_ok (C : Cx S w0 w L) (i : Nat) {b1 : Nat} {a : Lg} (hi : L[i]? = some (.cells b1 [.bool a.1, .string a.2])) {o34 : List Nat} {k1 k2 k3 k4 : Nat} {g : Lg → Lg → M (Lg × Int)} {res : Lg × Int} (hg : Is (g a (lg (-1))) res) {f : Addr × Int → M α}
    (hq : ∀ b w', Cx S w0 w' (.cells b [.bool res.1.1, .string res.1.2] :: L) → Ok (f (⟨b, 0, none⟩, res.2)) w' Q) :
    Ok (bnd (
  cnd (bef o34 k1 k2) (
  bnd (f37_largeint_Of (-1 : Int)) fun (r36 : (Bool × ByteArray)) =>
  bnd (
  bnd (chk (.agg (.pair .bool .str)) ⟨b1, 0, none⟩ a) fun _ =>
  ret ()) fun _ =>
  cnd (bef o34 k3 k4) (
  bnd (g a r36) fun (r37 : ((Bool × ByteArray) × Int)) =>
  bnd (ret ()) fun _ =>
  bnd (newC 23 [.bool false, .string (ByteArray.mk #[])]) fun (p38 : Addr) =>
  bnd (ret ()) fun _ =>
  bnd (wrs p38 0 [.bool r37.1.1, .string r37.1.2]) fun _ =>
  bnd (ret ()) fun _ =>
  ret (p38, r37.2)) (
  bnd (newC 23 [.bool false, .string (ByteArray.mk #[])]) fun (p39 : Addr) =>
  bnd (
  bnd (chk (.agg (.pair .bool .str)) ⟨b1, 0, none⟩ a) fun _ =>
  ret ()) fun _ =>
  bnd (g a r36) fun (r40 : ((Bool × ByteArray) × Int)) =>
  bnd (ret ()) fun _ =>
  bnd (wrs p39 0 [.bool r40.1.1, .string r40.1.2]) fun _ =>
  bnd (ret ()) fun _ =>
  ret (p39, r40.2))) (
  bnd (newC 23 [.bool false, .string (ByteArray.mk #[])]) fun (p41 : Addr) =>
  bnd (
  bnd (chk (.agg (.pair .bool .str)) ⟨b1, 0, none⟩ a) fun _ =>
  ret ()) fun _ =>
  bnd (f37_largeint_Of (-1 : Int)) fun (r42 : (Bool × ByteArray)) =>
  bnd (
  bnd (chk (.agg (.pair .bool .str)) ⟨b1, 0, none⟩ a) fun _ =>
  ret ()) fun _ =>
  bnd (g a r42) fun (r43 : ((Bool × ByteArray) × Int)) =>
  bnd (ret ()) fun _ =>
  bnd (wrs p41 0 [.bool r43.1.1, .string r43.1.2]) fun _ =>
  bnd (ret ()) fun _ =>
  ret (p41, r43.2))) f) w Q := by
  cases bef o34 k1 k2
  · refine ok_fB rfl ?_
    simp only [bnd_as, bnd_ret]
    refine ok_newL C fun b w C => ?_
    refine ok_chA1 C (i + 1) hi ?_
    refine ok_is C (ex_of _ (by decide) (by decide)) fun w C => ?_
    refine ok_chA1 C (i + 1) hi ?_
    refine ok_is C hg fun w C => ?_
    refine ok_wrA1 C 0 rfl fun w C => ?_
    exact hq _ _ C
  · refine ok_tB rfl ?_
    simp only [bnd_as, bnd_ret]
    refine ok_is C (ex_of _ (by decide) (by decide)) fun w C => ?_
    refine ok_chA1 C i hi ?_
    cases bef o34 k3 k4
    · refine ok_fB rfl ?_
      simp only [bnd_as, bnd_ret]
      refine ok_newL C fun b w C => ?_
      refine ok_chA1 C (i + 1) hi ?_
      refine ok_is C hg fun w C => ?_
      refine ok_wrA1 C 0 rfl fun w C => ?_
      exact hq _ _ C
    · refine ok_tB rfl ?_
      simp only [bnd_as, bnd_ret]
      refine ok_is C hg fun w C => ?_
      refine ok_newL C fun b w C => ?_
      refine ok_wrA1 C 0 rfl fun w C => ?_
      exact hq _ _ C
theorem logR_lg {f : Bool → Bool → Bool} {x y : Int} (hx : ¬ tooBig x.natAbs) (hy : ¬ tooBig y.natAbs) : logR f (lg x) (lg y) = toldZ (logZ f x y) := by
  unfold logR; rw [if_pos (ck2_zero.2 ⟨lg_ck hx, lg_ck hy⟩), iv_lg, iv_lg]
theorem toldZ_two (z : Int) : (toldZ z).2 = 0 ∨ (toldZ z).2 = 92 := by unfold toldZ; split <;> simp
theorem tb_one : ¬ tooBig (-1 : Int).natAbs := tb_small (by decide)
theorem llogic_is (a b : Lg) : Is (f7_palaverlaw09_LargeLogic a b) true := by
  intro wb
  unfold f7_palaverlaw09_LargeLogic
  have C := Cx.nil No wb
  repeat first
    | with_reducible refine ok_assoc ?_
    | with_reducible refine ok_retB ?_
    | with_reducible refine ok_is C (works_is) fun w C => ?_
    | with_reducible refine ok_is C (check_is _) fun w C => ?_
    | (with_reducible refine ah_newC ?_; refine ok_newL C fun bq w C => ?_)
    | (with_reducible refine ah_ord ?_; refine ok_ordL C fun oq w C => ?_)
    | (with_reducible refine ah_draw ?_; refine ok_drawL C fun w C => ?_)
    | (with_reducible refine ah_ldA ?_; first | refine w_ldA1 C ?_ | refine w_ldA2 C ?_)
    | (with_reducible refine ah_ldA3 ?_; refine w_ldA3 C ?_)
    | (with_reducible refine ah_ldA4 ?_; refine w_ldA4 C ?_)
    | (with_reducible refine ah_ldN ?_; first | refine w_ldN1 C ?_ | refine w_ldN2 C ?_)
    | (with_reducible refine ah_ldN3 ?_; refine w_ldN3 C ?_)
    | (with_reducible refine ah_ldN4 ?_; refine w_ldN4 C ?_)
    | (with_reducible refine ah_chA ?_; first | refine w_chA1 C ?_ | refine w_chA2 C ?_)
    | (with_reducible refine ah_chA3 ?_; refine w_chA3 C ?_)
    | (with_reducible refine ah_chN ?_; first | refine w_chN1 C ?_ | refine w_chN2 C ?_)
    | (with_reducible refine ah_chN4 ?_; refine w_chN4 C ?_)
    | (with_reducible refine ah_wrA ?_; refine w_wrA1 C fun w C => ?_)
    | (with_reducible refine ah_wrN ?_; refine w_wrN1 C fun w C => ?_)
    | (with_reducible refine ah_wrN2 ?_; refine w_wrN2 C fun w C => ?_)
    | (with_reducible refine ah_wrN3 ?_; refine w_wrN3 C fun w C => ?_)
  by_cases ha : ck a = 0
  rotate_left
  · refine ok_tB (by simpa using ha) ?_
    repeat first
      | with_reducible refine ok_assoc ?_
      | with_reducible refine ok_retB ?_
      | (with_reducible refine ah_newC ?_; refine ok_newL C fun bq w C => ?_)
      | (with_reducible refine ah_ord ?_; refine ok_ordL C fun oq w C => ?_)
      | (with_reducible refine ah_draw ?_; refine ok_drawL C fun w C => ?_)
      | (with_reducible refine ah_ldA ?_; first | refine w_ldA1 C ?_ | refine w_ldA2 C ?_)
      | (with_reducible refine ah_ldA3 ?_; refine w_ldA3 C ?_)
      | (with_reducible refine ah_ldA4 ?_; refine w_ldA4 C ?_)
      | (with_reducible refine ah_ldN ?_; first | refine w_ldN1 C ?_ | refine w_ldN2 C ?_)
      | (with_reducible refine ah_ldN3 ?_; refine w_ldN3 C ?_)
      | (with_reducible refine ah_ldN4 ?_; refine w_ldN4 C ?_)
      | (with_reducible refine ah_chA ?_; first | refine w_chA1 C ?_ | refine w_chA2 C ?_)
      | (with_reducible refine ah_chA3 ?_; refine w_chA3 C ?_)
      | (with_reducible refine ah_chN ?_; first | refine w_chN1 C ?_ | refine w_chN2 C ?_)
      | (with_reducible refine ah_chN4 ?_; refine w_chN4 C ?_)
      | (with_reducible refine ah_wrA ?_; refine w_wrA1 C fun w C => ?_)
      | (with_reducible refine ah_wrN ?_; refine w_wrN1 C fun w C => ?_)
      | (with_reducible refine ah_wrN2 ?_; refine w_wrN2 C fun w C => ?_)
      | (with_reducible refine ah_wrN3 ?_; refine w_wrN3 C fun w C => ?_)
    exact ok_true rfl (ok_ret.2 ⟨C.below, rfl⟩)
  refine ok_fB (by simpa using ha) ?_
  repeat first
    | with_reducible refine ok_assoc ?_
    | with_reducible refine ok_retB ?_
    | with_reducible refine ok_is C (check_is _) fun w C => ?_
    | (with_reducible refine ah_newC ?_; refine ok_newL C fun bq w C => ?_)
    | (with_reducible refine ah_ord ?_; refine ok_ordL C fun oq w C => ?_)
    | (with_reducible refine ah_draw ?_; refine ok_drawL C fun w C => ?_)
    | (with_reducible refine ah_ldA ?_; first | refine w_ldA1 C ?_ | refine w_ldA2 C ?_)
    | (with_reducible refine ah_ldA3 ?_; refine w_ldA3 C ?_)
    | (with_reducible refine ah_ldA4 ?_; refine w_ldA4 C ?_)
    | (with_reducible refine ah_ldN ?_; first | refine w_ldN1 C ?_ | refine w_ldN2 C ?_)
    | (with_reducible refine ah_ldN3 ?_; refine w_ldN3 C ?_)
    | (with_reducible refine ah_ldN4 ?_; refine w_ldN4 C ?_)
    | (with_reducible refine ah_chA ?_; first | refine w_chA1 C ?_ | refine w_chA2 C ?_)
    | (with_reducible refine ah_chA3 ?_; refine w_chA3 C ?_)
    | (with_reducible refine ah_chN ?_; first | refine w_chN1 C ?_ | refine w_chN2 C ?_)
    | (with_reducible refine ah_chN4 ?_; refine w_chN4 C ?_)
    | (with_reducible refine ah_wrA ?_; refine w_wrA1 C fun w C => ?_)
    | (with_reducible refine ah_wrN ?_; refine w_wrN1 C fun w C => ?_)
    | (with_reducible refine ah_wrN2 ?_; refine w_wrN2 C fun w C => ?_)
    | (with_reducible refine ah_wrN3 ?_; refine w_wrN3 C fun w C => ?_)
  by_cases hb : ck b = 0
  rotate_left
  · exact ok_true (by simpa using hb) (ok_ret.2 ⟨C.below, rfl⟩)
  refine ok_false (by simpa using hb) ?_
  obtain ⟨x, rfl, hx⟩ := ck_ex ha
  obtain ⟨y, rfl, hy⟩ := ck_ex hb
  have hA := and_is (lg x) (lg y)
  have hO := or_is (lg x) (lg y)
  have hX := xor_is (lg x) (lg y)
  rw [logR_lg hx hy] at hA hO hX
  have bA := logZ_bitw and x y
  have bO := logZ_bitw or x y
  have bX := logZ_bitw xor x y
  have e1 := and_or_add _ _ _ _ _ (Nat.le_refl _) bA bO
  have e2 := or_sub_and _ _ _ _ _ _ (Nat.le_refl _) bA bO bX
  generalize logZ and x y = A at *
  generalize logZ or x y = O at *
  generalize logZ xor x y = X at *
  by_cases hall : (toldZ A).2 = 0 ∧ (toldZ O).2 = 0 ∧ (toldZ X).2 = 0
  rotate_left
  · skip
    repeat first
      | with_reducible refine ok_assoc ?_
      | with_reducible refine ok_retB ?_
      | with_reducible refine ok_is C (hA) fun w C => ?_
      | with_reducible refine ok_is C (hO) fun w C => ?_
      | with_reducible refine ok_is C (hX) fun w C => ?_
      | (with_reducible refine ah_newC ?_; refine ok_newL C fun bq w C => ?_)
      | (with_reducible refine ah_ord ?_; refine ok_ordL C fun oq w C => ?_)
      | (with_reducible refine ah_draw ?_; refine ok_drawL C fun w C => ?_)
      | (with_reducible refine ah_ldA ?_; first | refine w_ldA1 C ?_ | refine w_ldA2 C ?_)
      | (with_reducible refine ah_ldA3 ?_; refine w_ldA3 C ?_)
      | (with_reducible refine ah_ldA4 ?_; refine w_ldA4 C ?_)
      | (with_reducible refine ah_ldN ?_; first | refine w_ldN1 C ?_ | refine w_ldN2 C ?_)
      | (with_reducible refine ah_ldN3 ?_; refine w_ldN3 C ?_)
      | (with_reducible refine ah_ldN4 ?_; refine w_ldN4 C ?_)
      | (with_reducible refine ah_chA ?_; first | refine w_chA1 C ?_ | refine w_chA2 C ?_)
      | (with_reducible refine ah_chA3 ?_; refine w_chA3 C ?_)
      | (with_reducible refine ah_chN ?_; first | refine w_chN1 C ?_ | refine w_chN2 C ?_)
      | (with_reducible refine ah_chN4 ?_; refine w_chN4 C ?_)
      | (with_reducible refine ah_wrA ?_; refine w_wrA1 C fun w C => ?_)
      | (with_reducible refine ah_wrN ?_; refine w_wrN1 C fun w C => ?_)
      | (with_reducible refine ah_wrN2 ?_; refine w_wrN2 C fun w C => ?_)
      | (with_reducible refine ah_wrN3 ?_; refine w_wrN3 C fun w C => ?_)
    refine ok_true ?_ (ok_ret.2 ⟨C.below, ?_⟩)
    · rw [Bool.eq_iff_iff]
      simp only [Bool.cond_true_left, Bool.or_eq_true, bne_iff_ne, ne_eq, iff_true]
      by_cases e1 : (toldZ A).2 = 0 <;> by_cases e2 : (toldZ O).2 = 0 <;> by_cases e3 : (toldZ X).2 = 0 <;> simp_all
    · rcases toldZ_two A with h | h <;> rcases toldZ_two O with h' | h' <;> rcases toldZ_two X with h'' | h'' <;> rw [h, h', h''] <;> rfl
  obtain ⟨f1, f2, f3⟩ := hall
  obtain ⟨f1, g1⟩ := toldZ_ok f1
  obtain ⟨f2, g2⟩ := toldZ_ok f2
  obtain ⟨f3, g3⟩ := toldZ_ok f3
  rw [f1] at hA
  rw [f2] at hO
  rw [f3] at hX
  have k1 := add_is (lg x) (lg y)
  rw [addR_lg hx hy] at k1
  have k2 := add_is (lg A) (lg O)
  rw [addR_lg g1 g2, e1] at k2
  have k3 := sub_is (lg O) (lg A)
  rw [subR_lg g2 g1, e2, f3] at k3
  have k4 := and_is (lg x) (lg (-1))
  rw [logR_lg hx tb_one, and_neg_one, toldZ_fine hx] at k4
  have k5 := xor_is (lg x) (lg (-1))
  rw [logR_lg hx tb_one, xor_neg_one] at k5
  have k6 := sub_is (lg (-1)) (lg x)
  rw [subR_lg tb_one hx] at k6
  repeat first
    | with_reducible refine ok_assoc ?_
    | with_reducible refine ok_retB ?_
    | with_reducible refine ok_is C (hA) fun w C => ?_
    | with_reducible refine ok_is C (hO) fun w C => ?_
    | with_reducible refine ok_is C (hX) fun w C => ?_
    | (with_reducible refine ah_newC ?_; refine ok_newL C fun bq w C => ?_)
    | (with_reducible refine ah_ord ?_; refine ok_ordL C fun oq w C => ?_)
    | (with_reducible refine ah_draw ?_; refine ok_drawL C fun w C => ?_)
    | (with_reducible refine ah_ldA ?_; first | refine w_ldA1 C ?_ | refine w_ldA2 C ?_)
    | (with_reducible refine ah_ldA3 ?_; refine w_ldA3 C ?_)
    | (with_reducible refine ah_ldA4 ?_; refine w_ldA4 C ?_)
    | (with_reducible refine ah_ldN ?_; first | refine w_ldN1 C ?_ | refine w_ldN2 C ?_)
    | (with_reducible refine ah_ldN3 ?_; refine w_ldN3 C ?_)
    | (with_reducible refine ah_ldN4 ?_; refine w_ldN4 C ?_)
    | (with_reducible refine ah_chA ?_; first | refine w_chA1 C ?_ | refine w_chA2 C ?_)
    | (with_reducible refine ah_chA3 ?_; refine w_chA3 C ?_)
    | (with_reducible refine ah_chN ?_; first | refine w_chN1 C ?_ | refine w_chN2 C ?_)
    | (with_reducible refine ah_chN4 ?_; refine w_chN4 C ?_)
    | (with_reducible refine ah_wrA ?_; refine w_wrA1 C fun w C => ?_)
    | (with_reducible refine ah_wrN ?_; refine w_wrN1 C fun w C => ?_)
    | (with_reducible refine ah_wrN2 ?_; refine w_wrN2 C fun w C => ?_)
    | (with_reducible refine ah_wrN3 ?_; refine w_wrN3 C fun w C => ?_)
  refine ok_false rfl ?_
  repeat first
    | with_reducible refine ok_assoc ?_
    | with_reducible refine ok_retB ?_
    | with_reducible refine ok_is C (k1) fun w C => ?_
    | with_reducible refine ok_is C (k2) fun w C => ?_
    | with_reducible refine ok_is C (k3) fun w C => ?_
    | (with_reducible refine ah_newC ?_; refine ok_newL C fun bq w C => ?_)
    | (with_reducible refine ah_ord ?_; refine ok_ordL C fun oq w C => ?_)
    | (with_reducible refine ah_draw ?_; refine ok_drawL C fun w C => ?_)
    | (with_reducible refine ah_ldA ?_; first | refine w_ldA1 C ?_ | refine w_ldA2 C ?_)
    | (with_reducible refine ah_ldA3 ?_; refine w_ldA3 C ?_)
    | (with_reducible refine ah_ldA4 ?_; refine w_ldA4 C ?_)
    | (with_reducible refine ah_ldN ?_; first | refine w_ldN1 C ?_ | refine w_ldN2 C ?_)
    | (with_reducible refine ah_ldN3 ?_; refine w_ldN3 C ?_)
    | (with_reducible refine ah_ldN4 ?_; refine w_ldN4 C ?_)
    | (with_reducible refine ah_chA ?_; first | refine w_chA1 C ?_ | refine w_chA2 C ?_)
    | (with_reducible refine ah_chA3 ?_; refine w_chA3 C ?_)
    | (with_reducible refine ah_chN ?_; first | refine w_chN1 C ?_ | refine w_chN2 C ?_)
    | (with_reducible refine ah_chN4 ?_; refine w_chN4 C ?_)
    | (with_reducible refine ah_wrA ?_; refine w_wrA1 C fun w C => ?_)
    | (with_reducible refine ah_wrN ?_; refine w_wrN1 C fun w C => ?_)
    | (with_reducible refine ah_wrN2 ?_; refine w_wrN2 C fun w C => ?_)
    | (with_reducible refine ah_wrN3 ?_; refine w_wrN3 C fun w C => ?_)
  refine reg_ok C 7 rfl (g := fun a r => f24_largeint_And a r) k4 fun b33 w C => ?_
  repeat first
    | with_reducible refine ok_assoc ?_
    | with_reducible refine ok_retB ?_
    | (with_reducible refine ah_newC ?_; refine ok_newL C fun bq w C => ?_)
    | (with_reducible refine ah_ord ?_; refine ok_ordL C fun oq w C => ?_)
    | (with_reducible refine ah_draw ?_; refine ok_drawL C fun w C => ?_)
    | (with_reducible refine ah_ldA ?_; first | refine w_ldA1 C ?_ | refine w_ldA2 C ?_)
    | (with_reducible refine ah_ldA3 ?_; refine w_ldA3 C ?_)
    | (with_reducible refine ah_ldA4 ?_; refine w_ldA4 C ?_)
    | (with_reducible refine ah_ldN ?_; first | refine w_ldN1 C ?_ | refine w_ldN2 C ?_)
    | (with_reducible refine ah_ldN3 ?_; refine w_ldN3 C ?_)
    | (with_reducible refine ah_ldN4 ?_; refine w_ldN4 C ?_)
    | (with_reducible refine ah_chA ?_; first | refine w_chA1 C ?_ | refine w_chA2 C ?_)
    | (with_reducible refine ah_chA3 ?_; refine w_chA3 C ?_)
    | (with_reducible refine ah_chN ?_; first | refine w_chN1 C ?_ | refine w_chN2 C ?_)
    | (with_reducible refine ah_chN4 ?_; refine w_chN4 C ?_)
    | (with_reducible refine ah_wrA ?_; refine w_wrA1 C fun w C => ?_)
    | (with_reducible refine ah_wrN ?_; refine w_wrN1 C fun w C => ?_)
    | (with_reducible refine ah_wrN2 ?_; refine w_wrN2 C fun w C => ?_)
    | (with_reducible refine ah_wrN3 ?_; refine w_wrN3 C fun w C => ?_)
  refine reg_ok C 8 rfl (g := fun a r => f28_largeint_Xor a r) k5 fun b44 w C => ?_
  repeat first
    | with_reducible refine ok_assoc ?_
    | with_reducible refine ok_retB ?_
    | (with_reducible refine ah_newC ?_; refine ok_newL C fun bq w C => ?_)
    | (with_reducible refine ah_ord ?_; refine ok_ordL C fun oq w C => ?_)
    | (with_reducible refine ah_draw ?_; refine ok_drawL C fun w C => ?_)
    | (with_reducible refine ah_ldA ?_; first | refine w_ldA1 C ?_ | refine w_ldA2 C ?_)
    | (with_reducible refine ah_ldA3 ?_; refine w_ldA3 C ?_)
    | (with_reducible refine ah_ldA4 ?_; refine w_ldA4 C ?_)
    | (with_reducible refine ah_ldN ?_; first | refine w_ldN1 C ?_ | refine w_ldN2 C ?_)
    | (with_reducible refine ah_ldN3 ?_; refine w_ldN3 C ?_)
    | (with_reducible refine ah_ldN4 ?_; refine w_ldN4 C ?_)
    | (with_reducible refine ah_chA ?_; first | refine w_chA1 C ?_ | refine w_chA2 C ?_)
    | (with_reducible refine ah_chA3 ?_; refine w_chA3 C ?_)
    | (with_reducible refine ah_chN ?_; first | refine w_chN1 C ?_ | refine w_chN2 C ?_)
    | (with_reducible refine ah_chN4 ?_; refine w_chN4 C ?_)
    | (with_reducible refine ah_wrA ?_; refine w_wrA1 C fun w C => ?_)
    | (with_reducible refine ah_wrN ?_; refine w_wrN1 C fun w C => ?_)
    | (with_reducible refine ah_wrN2 ?_; refine w_wrN2 C fun w C => ?_)
    | (with_reducible refine ah_wrN3 ?_; refine w_wrN3 C fun w C => ?_)
  refine reg_ok C 9 rfl (g := fun a r => f36_largeint_Sub r a) k6 fun b55 w C => ?_
  refine ok_fB (by simp) ?_
  repeat first
    | with_reducible refine ok_assoc ?_
    | with_reducible refine ok_retB ?_
    | (with_reducible refine ah_newC ?_; refine ok_newL C fun bq w C => ?_)
    | (with_reducible refine ah_ord ?_; refine ok_ordL C fun oq w C => ?_)
    | (with_reducible refine ah_draw ?_; refine ok_drawL C fun w C => ?_)
    | (with_reducible refine ah_ldA ?_; first | refine w_ldA1 C ?_ | refine w_ldA2 C ?_)
    | (with_reducible refine ah_ldA3 ?_; refine w_ldA3 C ?_)
    | (with_reducible refine ah_ldA4 ?_; refine w_ldA4 C ?_)
    | (with_reducible refine ah_ldN ?_; first | refine w_ldN1 C ?_ | refine w_ldN2 C ?_)
    | (with_reducible refine ah_ldN3 ?_; refine w_ldN3 C ?_)
    | (with_reducible refine ah_ldN4 ?_; refine w_ldN4 C ?_)
    | (with_reducible refine ah_chA ?_; first | refine w_chA1 C ?_ | refine w_chA2 C ?_)
    | (with_reducible refine ah_chA3 ?_; refine w_chA3 C ?_)
    | (with_reducible refine ah_chN ?_; first | refine w_chN1 C ?_ | refine w_chN2 C ?_)
    | (with_reducible refine ah_chN4 ?_; refine w_chN4 C ?_)
    | (with_reducible refine ah_wrA ?_; refine w_wrA1 C fun w C => ?_)
    | (with_reducible refine ah_wrN ?_; refine w_wrN1 C fun w C => ?_)
    | (with_reducible refine ah_wrN2 ?_; refine w_wrN2 C fun w C => ?_)
    | (with_reducible refine ah_wrN3 ?_; refine w_wrN3 C fun w C => ?_)
  refine ok_fB (by simp [strEq_eq]) ?_
  repeat first
    | with_reducible refine ok_assoc ?_
    | with_reducible refine ok_retB ?_
    | (with_reducible refine ah_newC ?_; refine ok_newL C fun bq w C => ?_)
    | (with_reducible refine ah_ord ?_; refine ok_ordL C fun oq w C => ?_)
    | (with_reducible refine ah_draw ?_; refine ok_drawL C fun w C => ?_)
    | (with_reducible refine ah_ldA ?_; first | refine w_ldA1 C ?_ | refine w_ldA2 C ?_)
    | (with_reducible refine ah_ldA3 ?_; refine w_ldA3 C ?_)
    | (with_reducible refine ah_ldA4 ?_; refine w_ldA4 C ?_)
    | (with_reducible refine ah_ldN ?_; first | refine w_ldN1 C ?_ | refine w_ldN2 C ?_)
    | (with_reducible refine ah_ldN3 ?_; refine w_ldN3 C ?_)
    | (with_reducible refine ah_ldN4 ?_; refine w_ldN4 C ?_)
    | (with_reducible refine ah_chA ?_; first | refine w_chA1 C ?_ | refine w_chA2 C ?_)
    | (with_reducible refine ah_chA3 ?_; refine w_chA3 C ?_)
    | (with_reducible refine ah_chN ?_; first | refine w_chN1 C ?_ | refine w_chN2 C ?_)
    | (with_reducible refine ah_chN4 ?_; refine w_chN4 C ?_)
    | (with_reducible refine ah_wrA ?_; refine w_wrA1 C fun w C => ?_)
    | (with_reducible refine ah_wrN ?_; refine w_wrN1 C fun w C => ?_)
    | (with_reducible refine ah_wrN2 ?_; refine w_wrN2 C fun w C => ?_)
    | (with_reducible refine ah_wrN3 ?_; refine w_wrN3 C fun w C => ?_)
  refine ok_false (by simp [strEq_eq]) ?_
  refine ok_tB rfl ?_
  repeat first
    | with_reducible refine ok_assoc ?_
    | with_reducible refine ok_retB ?_
    | (with_reducible refine ah_newC ?_; refine ok_newL C fun bq w C => ?_)
    | (with_reducible refine ah_ord ?_; refine ok_ordL C fun oq w C => ?_)
    | (with_reducible refine ah_draw ?_; refine ok_drawL C fun w C => ?_)
    | (with_reducible refine ah_ldA ?_; first | refine w_ldA1 C ?_ | refine w_ldA2 C ?_)
    | (with_reducible refine ah_ldA3 ?_; refine w_ldA3 C ?_)
    | (with_reducible refine ah_ldA4 ?_; refine w_ldA4 C ?_)
    | (with_reducible refine ah_ldN ?_; first | refine w_ldN1 C ?_ | refine w_ldN2 C ?_)
    | (with_reducible refine ah_ldN3 ?_; refine w_ldN3 C ?_)
    | (with_reducible refine ah_ldN4 ?_; refine w_ldN4 C ?_)
    | (with_reducible refine ah_chA ?_; first | refine w_chA1 C ?_ | refine w_chA2 C ?_)
    | (with_reducible refine ah_chA3 ?_; refine w_chA3 C ?_)
    | (with_reducible refine ah_chN ?_; first | refine w_chN1 C ?_ | refine w_chN2 C ?_)
    | (with_reducible refine ah_chN4 ?_; refine w_chN4 C ?_)
    | (with_reducible refine ah_wrA ?_; refine w_wrA1 C fun w C => ?_)
    | (with_reducible refine ah_wrN ?_; refine w_wrN1 C fun w C => ?_)
    | (with_reducible refine ah_wrN2 ?_; refine w_wrN2 C fun w C => ?_)
    | (with_reducible refine ah_wrN3 ?_; refine w_wrN3 C fun w C => ?_)
  refine ok_tB (by simp [strEq_eq]) ?_
  by_cases hn : (toldZ (-1 - x)).2 = 0
  · refine ok_assoc (ok_fB (by simp [hn]) ?_)
    repeat first
      | with_reducible refine ok_assoc ?_
      | with_reducible refine ok_retB ?_
      | (with_reducible refine ah_newC ?_; refine ok_newL C fun bq w C => ?_)
      | (with_reducible refine ah_ord ?_; refine ok_ordL C fun oq w C => ?_)
      | (with_reducible refine ah_draw ?_; refine ok_drawL C fun w C => ?_)
      | (with_reducible refine ah_ldA ?_; first | refine w_ldA1 C ?_ | refine w_ldA2 C ?_)
      | (with_reducible refine ah_ldA3 ?_; refine w_ldA3 C ?_)
      | (with_reducible refine ah_ldA4 ?_; refine w_ldA4 C ?_)
      | (with_reducible refine ah_ldN ?_; first | refine w_ldN1 C ?_ | refine w_ldN2 C ?_)
      | (with_reducible refine ah_ldN3 ?_; refine w_ldN3 C ?_)
      | (with_reducible refine ah_ldN4 ?_; refine w_ldN4 C ?_)
      | (with_reducible refine ah_chA ?_; first | refine w_chA1 C ?_ | refine w_chA2 C ?_)
      | (with_reducible refine ah_chA3 ?_; refine w_chA3 C ?_)
      | (with_reducible refine ah_chN ?_; first | refine w_chN1 C ?_ | refine w_chN2 C ?_)
      | (with_reducible refine ah_chN4 ?_; refine w_chN4 C ?_)
      | (with_reducible refine ah_wrA ?_; refine w_wrA1 C fun w C => ?_)
      | (with_reducible refine ah_wrN ?_; refine w_wrN1 C fun w C => ?_)
      | (with_reducible refine ah_wrN2 ?_; refine w_wrN2 C fun w C => ?_)
      | (with_reducible refine ah_wrN3 ?_; refine w_wrN3 C fun w C => ?_)
    exact ok_ret.2 ⟨C.below, by simp [strEq_eq]⟩
  · refine ok_assoc (ok_tB (by simp [hn]) ?_)
    repeat first
      | with_reducible refine ok_assoc ?_
      | with_reducible refine ok_retB ?_
      | (with_reducible refine ah_newC ?_; refine ok_newL C fun bq w C => ?_)
      | (with_reducible refine ah_ord ?_; refine ok_ordL C fun oq w C => ?_)
      | (with_reducible refine ah_draw ?_; refine ok_drawL C fun w C => ?_)
      | (with_reducible refine ah_ldA ?_; first | refine w_ldA1 C ?_ | refine w_ldA2 C ?_)
      | (with_reducible refine ah_ldA3 ?_; refine w_ldA3 C ?_)
      | (with_reducible refine ah_ldA4 ?_; refine w_ldA4 C ?_)
      | (with_reducible refine ah_ldN ?_; first | refine w_ldN1 C ?_ | refine w_ldN2 C ?_)
      | (with_reducible refine ah_ldN3 ?_; refine w_ldN3 C ?_)
      | (with_reducible refine ah_ldN4 ?_; refine w_ldN4 C ?_)
      | (with_reducible refine ah_chA ?_; first | refine w_chA1 C ?_ | refine w_chA2 C ?_)
      | (with_reducible refine ah_chA3 ?_; refine w_chA3 C ?_)
      | (with_reducible refine ah_chN ?_; first | refine w_chN1 C ?_ | refine w_chN2 C ?_)
      | (with_reducible refine ah_chN4 ?_; refine w_chN4 C ?_)
      | (with_reducible refine ah_wrA ?_; refine w_wrA1 C fun w C => ?_)
      | (with_reducible refine ah_wrN ?_; refine w_wrN1 C fun w C => ?_)
      | (with_reducible refine ah_wrN2 ?_; refine w_wrN2 C fun w C => ?_)
      | (with_reducible refine ah_wrN3 ?_; refine w_wrN3 C fun w C => ?_)
    exact ok_ret.2 ⟨C.below, rfl⟩
end Go.Proofs.Ytoekfjgikicclaa
