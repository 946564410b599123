/-
  Part of the proof: L39. It states what the functions do; no further condition.
-/
import Derived.Test.YtoekfjgikicclaaL38
set_option linter.unusedVariables false
set_option linter.unusedSimpArgs false
namespace Go.Proofs.Ytoekfjgikicclaa
set_option linter.unusedVariables false
open Go.Sh Go.RowKit
set_option maxRecDepth 100000
/-! ### The document's quotient -/
theorem db_two {c : List Int} (dc : D8 c) (k : Nat) (hk : k ≤ 7) : (db (v8 c * 2 ^ k)).length ≤ c.length + 1 := by
  refine dgs_length h256 ?_
  have h1 := v8_lt dc
  have h2 : 2 ^ k ≤ 2 ^ 7 := Nat.pow_le_pow_right (by decide) hk
  rw [Nat.pow_succ]
  exact Nat.lt_of_lt_of_le (Nat.mul_lt_mul_of_pos_right h1 (Nat.two_pow_pos k)) (Nat.mul_le_mul_left _ (Nat.le_trans h2 (by decide)))
theorem dbl (n k : Nat) : n * 2 ^ k + n * 2 ^ k = n * 2 ^ (k + 1) := by rw [Nat.pow_succ, ← Nat.mul_assoc]; omega
theorem divide_spec {B B' : Nat} {wb : World} {x y : Sl} {a c : List Int} (hx : A8 B wb x a) (hy : A8 B' wb y c) (da : D8 a) (dc : D8 c) (la : a.length ≤ 100000) (lc : c.length ≤ 100000) (hY : v8 c ≠ 0) :
    Ok (f56_palaverref09_divide x y) wb fun r w' => Cx No wb w' [.own r.2 (nums .u8 (db (v8 a % v8 c))), .own r.1 (nums .u8 (db (v8 a / v8 c)))] := by
  unfold f56_palaverref09_divide
  have hml : maxLen = 9223372036854775807 := by decide
  have ex : x.len = a.length := by have := hx.1; simpa using this
  have ey : y.len = c.length := by have := hy.1; simpa using this
  refine ok_makeN slt61 (Cx.nil No wb) (by omega) (by omega) (by omega) fun v w hv ⟨bv, hb⟩ C => ?_
  rw [show ((x.len : Int)).toNat = a.length by omega] at C hv
  refine ok_newL C fun p2 w C => ?_
  refine ok_ixA (k := 0) rfl (by decide) ?_
  refine ok_wrC C 0 [slV y, .slice none 0 0, .slice none 0 0, .slice none 0 0, .slice none 0 0, .slice none 0 0, .slice none 0 0, .slice none 0 0] rfl (by simp) rfl rfl fun w C => ?_
  simp only [List.set_cons_zero] at C
  refine ok_loopS (ok_true (by decide) (ok_bnd.2 (ok_ordL C fun oq w C => ?_)))
  refine ok_ixA (k := 0) (by decide) (by decide) ?_
  refine ok_rdL C 0 rfl (t := .sl) (x := y) (rdv_sl rfl) ?_
  refine ok_ixA (k := 0) (by decide) (by decide) ?_
  refine ok_rdL C 0 rfl (t := .sl) (x := y) (rdv_sl rfl) ?_
  refine ok_callL C (plus_spec (a := c) (c := c) (C.old (arr_size hy)) (C.old (arr_size hy)) dc dc (show c.length ≤ 1000000 by omega) (show c.length ≤ 1000000 by omega)) (fun r w' h => h.1) ?_
  rintro m1 w1 ⟨hB, hm1⟩ _
  have ev : v8 c + v8 c = v8 c * 2 ^ 1 := by omega
  rw [ev] at hm1
  replace C := C.addOwn hB hm1
  clear hB hm1 ev
  refine ok_retB ?_
  refine ok_ixA (k := 1) (by decide) (by decide) ?_
  refine ok_wrC C 1 [slV y, slV m1, .slice none 0 0, .slice none 0 0, .slice none 0 0, .slice none 0 0, .slice none 0 0, .slice none 0 0] rfl (by simp) rfl rfl fun w C => ok_retB (ok_ret.2 (ok_ret.2 ?_))
  simp only [List.set_cons_succ, List.set_cons_zero] at C
  refine ok_loopS (ok_true (by decide) (ok_bnd.2 (ok_ordL C fun oq w C => ?_)))
  refine ok_ixA (k := 1) (by decide) (by decide) ?_
  refine ok_rdL C 1 rfl (t := .sl) (x := m1) (rdv_sl rfl) ?_
  refine ok_ixA (k := 1) (by decide) (by decide) ?_
  refine ok_rdL C 1 rfl (t := .sl) (x := m1) (rdv_sl rfl) ?_
  refine ok_callL C (plus_spec (a := (db (v8 c * 2 ^ 1))) (c := (db (v8 c * 2 ^ 1))) (C.arr (i := 0) (xs := nums .u8 (db (v8 c * 2 ^ 1))) rfl) (C.arr (i := 0) (xs := nums .u8 (db (v8 c * 2 ^ 1))) rfl) (dg_dgs h256 _) (dg_dgs h256 _) (show (db (v8 c * 2 ^ 1)).length ≤ 1000000 by have := db_two dc 1 (by decide); omega) (show (db (v8 c * 2 ^ 1)).length ≤ 1000000 by have := db_two dc 1 (by decide); omega)) (fun r w' h => h.1) ?_
  rintro m2 w1 ⟨hB, hm2⟩ _
  have ev : v8 (db (v8 c * 2 ^ 1)) + v8 (db (v8 c * 2 ^ 1)) = v8 c * 2 ^ 2 := by rw [v8_db]; exact dbl _ 1
  rw [ev] at hm2
  replace C := C.addOwn hB hm2
  clear hB hm2 ev
  refine ok_retB ?_
  refine ok_ixA (k := 2) (by decide) (by decide) ?_
  refine ok_wrC C 2 [slV y, slV m1, slV m2, .slice none 0 0, .slice none 0 0, .slice none 0 0, .slice none 0 0, .slice none 0 0] rfl (by simp) rfl rfl fun w C => ok_retB (ok_ret.2 (ok_ret.2 ?_))
  simp only [List.set_cons_succ, List.set_cons_zero] at C
  refine ok_loopS (ok_true (by decide) (ok_bnd.2 (ok_ordL C fun oq w C => ?_)))
  refine ok_ixA (k := 2) (by decide) (by decide) ?_
  refine ok_rdL C 2 rfl (t := .sl) (x := m2) (rdv_sl rfl) ?_
  refine ok_ixA (k := 2) (by decide) (by decide) ?_
  refine ok_rdL C 2 rfl (t := .sl) (x := m2) (rdv_sl rfl) ?_
  refine ok_callL C (plus_spec (a := (db (v8 c * 2 ^ 2))) (c := (db (v8 c * 2 ^ 2))) (C.arr (i := 0) (xs := nums .u8 (db (v8 c * 2 ^ 2))) rfl) (C.arr (i := 0) (xs := nums .u8 (db (v8 c * 2 ^ 2))) rfl) (dg_dgs h256 _) (dg_dgs h256 _) (show (db (v8 c * 2 ^ 2)).length ≤ 1000000 by have := db_two dc 2 (by decide); omega) (show (db (v8 c * 2 ^ 2)).length ≤ 1000000 by have := db_two dc 2 (by decide); omega)) (fun r w' h => h.1) ?_
  rintro m3 w1 ⟨hB, hm3⟩ _
  have ev : v8 (db (v8 c * 2 ^ 2)) + v8 (db (v8 c * 2 ^ 2)) = v8 c * 2 ^ 3 := by rw [v8_db]; exact dbl _ 2
  rw [ev] at hm3
  replace C := C.addOwn hB hm3
  clear hB hm3 ev
  refine ok_retB ?_
  refine ok_ixA (k := 3) (by decide) (by decide) ?_
  refine ok_wrC C 3 [slV y, slV m1, slV m2, slV m3, .slice none 0 0, .slice none 0 0, .slice none 0 0, .slice none 0 0] rfl (by simp) rfl rfl fun w C => ok_retB (ok_ret.2 (ok_ret.2 ?_))
  simp only [List.set_cons_succ, List.set_cons_zero] at C
  refine ok_loopS (ok_true (by decide) (ok_bnd.2 (ok_ordL C fun oq w C => ?_)))
  refine ok_ixA (k := 3) (by decide) (by decide) ?_
  refine ok_rdL C 3 rfl (t := .sl) (x := m3) (rdv_sl rfl) ?_
  refine ok_ixA (k := 3) (by decide) (by decide) ?_
  refine ok_rdL C 3 rfl (t := .sl) (x := m3) (rdv_sl rfl) ?_
  refine ok_callL C (plus_spec (a := (db (v8 c * 2 ^ 3))) (c := (db (v8 c * 2 ^ 3))) (C.arr (i := 0) (xs := nums .u8 (db (v8 c * 2 ^ 3))) rfl) (C.arr (i := 0) (xs := nums .u8 (db (v8 c * 2 ^ 3))) rfl) (dg_dgs h256 _) (dg_dgs h256 _) (show (db (v8 c * 2 ^ 3)).length ≤ 1000000 by have := db_two dc 3 (by decide); omega) (show (db (v8 c * 2 ^ 3)).length ≤ 1000000 by have := db_two dc 3 (by decide); omega)) (fun r w' h => h.1) ?_
  rintro m4 w1 ⟨hB, hm4⟩ _
  have ev : v8 (db (v8 c * 2 ^ 3)) + v8 (db (v8 c * 2 ^ 3)) = v8 c * 2 ^ 4 := by rw [v8_db]; exact dbl _ 3
  rw [ev] at hm4
  replace C := C.addOwn hB hm4
  clear hB hm4 ev
  refine ok_retB ?_
  refine ok_ixA (k := 4) (by decide) (by decide) ?_
  refine ok_wrC C 4 [slV y, slV m1, slV m2, slV m3, slV m4, .slice none 0 0, .slice none 0 0, .slice none 0 0] rfl (by simp) rfl rfl fun w C => ok_retB (ok_ret.2 (ok_ret.2 ?_))
  simp only [List.set_cons_succ, List.set_cons_zero] at C
  refine ok_loopS (ok_true (by decide) (ok_bnd.2 (ok_ordL C fun oq w C => ?_)))
  refine ok_ixA (k := 4) (by decide) (by decide) ?_
  refine ok_rdL C 4 rfl (t := .sl) (x := m4) (rdv_sl rfl) ?_
  refine ok_ixA (k := 4) (by decide) (by decide) ?_
  refine ok_rdL C 4 rfl (t := .sl) (x := m4) (rdv_sl rfl) ?_
  refine ok_callL C (plus_spec (a := (db (v8 c * 2 ^ 4))) (c := (db (v8 c * 2 ^ 4))) (C.arr (i := 0) (xs := nums .u8 (db (v8 c * 2 ^ 4))) rfl) (C.arr (i := 0) (xs := nums .u8 (db (v8 c * 2 ^ 4))) rfl) (dg_dgs h256 _) (dg_dgs h256 _) (show (db (v8 c * 2 ^ 4)).length ≤ 1000000 by have := db_two dc 4 (by decide); omega) (show (db (v8 c * 2 ^ 4)).length ≤ 1000000 by have := db_two dc 4 (by decide); omega)) (fun r w' h => h.1) ?_
  rintro m5 w1 ⟨hB, hm5⟩ _
  have ev : v8 (db (v8 c * 2 ^ 4)) + v8 (db (v8 c * 2 ^ 4)) = v8 c * 2 ^ 5 := by rw [v8_db]; exact dbl _ 4
  rw [ev] at hm5
  replace C := C.addOwn hB hm5
  clear hB hm5 ev
  refine ok_retB ?_
  refine ok_ixA (k := 5) (by decide) (by decide) ?_
  refine ok_wrC C 5 [slV y, slV m1, slV m2, slV m3, slV m4, slV m5, .slice none 0 0, .slice none 0 0] rfl (by simp) rfl rfl fun w C => ok_retB (ok_ret.2 (ok_ret.2 ?_))
  simp only [List.set_cons_succ, List.set_cons_zero] at C
  refine ok_loopS (ok_true (by decide) (ok_bnd.2 (ok_ordL C fun oq w C => ?_)))
  refine ok_ixA (k := 5) (by decide) (by decide) ?_
  refine ok_rdL C 5 rfl (t := .sl) (x := m5) (rdv_sl rfl) ?_
  refine ok_ixA (k := 5) (by decide) (by decide) ?_
  refine ok_rdL C 5 rfl (t := .sl) (x := m5) (rdv_sl rfl) ?_
  refine ok_callL C (plus_spec (a := (db (v8 c * 2 ^ 5))) (c := (db (v8 c * 2 ^ 5))) (C.arr (i := 0) (xs := nums .u8 (db (v8 c * 2 ^ 5))) rfl) (C.arr (i := 0) (xs := nums .u8 (db (v8 c * 2 ^ 5))) rfl) (dg_dgs h256 _) (dg_dgs h256 _) (show (db (v8 c * 2 ^ 5)).length ≤ 1000000 by have := db_two dc 5 (by decide); omega) (show (db (v8 c * 2 ^ 5)).length ≤ 1000000 by have := db_two dc 5 (by decide); omega)) (fun r w' h => h.1) ?_
  rintro m6 w1 ⟨hB, hm6⟩ _
  have ev : v8 (db (v8 c * 2 ^ 5)) + v8 (db (v8 c * 2 ^ 5)) = v8 c * 2 ^ 6 := by rw [v8_db]; exact dbl _ 5
  rw [ev] at hm6
  replace C := C.addOwn hB hm6
  clear hB hm6 ev
  refine ok_retB ?_
  refine ok_ixA (k := 6) (by decide) (by decide) ?_
  refine ok_wrC C 6 [slV y, slV m1, slV m2, slV m3, slV m4, slV m5, slV m6, .slice none 0 0] rfl (by simp) rfl rfl fun w C => ok_retB (ok_ret.2 (ok_ret.2 ?_))
  simp only [List.set_cons_succ, List.set_cons_zero] at C
  refine ok_loopS (ok_true (by decide) (ok_bnd.2 (ok_ordL C fun oq w C => ?_)))
  refine ok_ixA (k := 6) (by decide) (by decide) ?_
  refine ok_rdL C 6 rfl (t := .sl) (x := m6) (rdv_sl rfl) ?_
  refine ok_ixA (k := 6) (by decide) (by decide) ?_
  refine ok_rdL C 6 rfl (t := .sl) (x := m6) (rdv_sl rfl) ?_
  refine ok_callL C (plus_spec (a := (db (v8 c * 2 ^ 6))) (c := (db (v8 c * 2 ^ 6))) (C.arr (i := 0) (xs := nums .u8 (db (v8 c * 2 ^ 6))) rfl) (C.arr (i := 0) (xs := nums .u8 (db (v8 c * 2 ^ 6))) rfl) (dg_dgs h256 _) (dg_dgs h256 _) (show (db (v8 c * 2 ^ 6)).length ≤ 1000000 by have := db_two dc 6 (by decide); omega) (show (db (v8 c * 2 ^ 6)).length ≤ 1000000 by have := db_two dc 6 (by decide); omega)) (fun r w' h => h.1) ?_
  rintro m7 w1 ⟨hB, hm7⟩ _
  have ev : v8 (db (v8 c * 2 ^ 6)) + v8 (db (v8 c * 2 ^ 6)) = v8 c * 2 ^ 7 := by rw [v8_db]; exact dbl _ 6
  rw [ev] at hm7
  replace C := C.addOwn hB hm7
  clear hB hm7 ev
  refine ok_retB ?_
  refine ok_ixA (k := 7) (by decide) (by decide) ?_
  refine ok_wrC C 7 [slV y, slV m1, slV m2, slV m3, slV m4, slV m5, slV m6, slV m7] rfl (by simp) rfl rfl fun w C => ok_retB (ok_ret.2 (ok_ret.2 ?_))
  simp only [List.set_cons_succ, List.set_cons_zero] at C
  refine ok_loopS (ok_false (by decide) ?_)
  refine ok_mono (Q := fun r w' => ∃ t, r = .inr t ∧ Cx No wb w' [.own t.2 (nums .u8 (db (v8 a % v8 c))), .own t.1 (nums .u8 (db (v8 a / v8 c)))]) ?_ (by rintro _ _ ⟨t, rfl, h⟩; exact h)
  refine ok_bnd.2 (ok_mono (Q := fun t w' => Cx No wb w' [.own t.2 (nums .u8 (db (v8 a % v8 c))), .own t.1 (nums .u8 (db (v8 a / v8 c)))]) ?_ (fun t _ h => ok_ret.2 ⟨t, rfl, h⟩))
  replace C : Cx No wb w [.own ⟨none, 0, 0⟩ (nums .u8 (db 0)), .own m7 (nums .u8 (db (v8 c * 2 ^ 7))), .own m6 (nums .u8 (db (v8 c * 2 ^ 6))), .own m5 (nums .u8 (db (v8 c * 2 ^ 5))), .own m4 (nums .u8 (db (v8 c * 2 ^ 4))), .own m3 (nums .u8 (db (v8 c * 2 ^ 3))), .own m2 (nums .u8 (db (v8 c * 2 ^ 2))), .own m1 (nums .u8 (db (v8 c * 2 ^ 1))), .cells p2 [slV y, slV m1, slV m2, slV m3, slV m4, slV m5, slV m6, slV m7], .own v (nums .u8 (List.replicate a.length 0))] := by
    have e : db 0 = [] := dgs_zero 256
    rw [e]; exact C.addNil
  -- what is told of each doubling
  have key : ∀ k, k < 8 → ∃ s l, ([slV y, slV m1, slV m2, slV m3, slV m4, slV m5, slV m6, slV m7] : List Value).toArray[k]? = some (slV s) ∧ D8 l ∧ v8 l = v8 c * 2 ^ k ∧ l.length ≤ 1000000 ∧ ∀ (w : World) (r : It) (qs : List Int), Cx No wb w [r, .own m7 (nums .u8 (db (v8 c * 2 ^ 7))), .own m6 (nums .u8 (db (v8 c * 2 ^ 6))), .own m5 (nums .u8 (db (v8 c * 2 ^ 5))), .own m4 (nums .u8 (db (v8 c * 2 ^ 4))), .own m3 (nums .u8 (db (v8 c * 2 ^ 3))), .own m2 (nums .u8 (db (v8 c * 2 ^ 2))), .own m1 (nums .u8 (db (v8 c * 2 ^ 1))), .cells p2 [slV y, slV m1, slV m2, slV m3, slV m4, slV m5, slV m6, slV m7], .own v (nums .u8 qs)] → A8 w.heap.size w s l := by
    intro k hk
    have hdb : ∀ j, j ≤ 7 → (db (v8 c * 2 ^ j)).length ≤ 1000000 := fun j hj => by have := db_two dc j hj; omega
    match k, hk with
    | 0, _ => exact ⟨y, c, rfl, dc, by simp, by omega, fun w r qs C => C.old (arr_size hy)⟩
    | 1, _ => exact ⟨m1, db (v8 c * 2 ^ 1), rfl, dg_dgs h256 _, v8_db _, hdb 1 (by decide), fun w r qs C => C.arr (i := 7) rfl⟩
    | 2, _ => exact ⟨m2, db (v8 c * 2 ^ 2), rfl, dg_dgs h256 _, v8_db _, hdb 2 (by decide), fun w r qs C => C.arr (i := 6) rfl⟩
    | 3, _ => exact ⟨m3, db (v8 c * 2 ^ 3), rfl, dg_dgs h256 _, v8_db _, hdb 3 (by decide), fun w r qs C => C.arr (i := 5) rfl⟩
    | 4, _ => exact ⟨m4, db (v8 c * 2 ^ 4), rfl, dg_dgs h256 _, v8_db _, hdb 4 (by decide), fun w r qs C => C.arr (i := 4) rfl⟩
    | 5, _ => exact ⟨m5, db (v8 c * 2 ^ 5), rfl, dg_dgs h256 _, v8_db _, hdb 5 (by decide), fun w r qs C => C.arr (i := 3) rfl⟩
    | 6, _ => exact ⟨m6, db (v8 c * 2 ^ 6), rfl, dg_dgs h256 _, v8_db _, hdb 6 (by decide), fun w r qs C => C.arr (i := 2) rfl⟩
    | 7, _ => exact ⟨m7, db (v8 c * 2 ^ 7), rfl, dg_dgs h256 _, v8_db _, hdb 7 (by decide), fun w r qs C => C.arr (i := 1) rfl⟩
  have e0 : IntKind.wrap .i64 ((x.len : Int) - 1) = (a.length : Int) - 1 := by rw [wrapI_in (by omega)]; omega
  rw [e0]
  have va := v8_cast da
  refine ok_loop (fun (s : Sl × Int) w' => ∃ (qs : List Int) (R : Nat), Cx No wb w' [.own s.1 (nums .u8 (db R)), .own m7 (nums .u8 (db (v8 c * 2 ^ 7))), .own m6 (nums .u8 (db (v8 c * 2 ^ 6))), .own m5 (nums .u8 (db (v8 c * 2 ^ 5))), .own m4 (nums .u8 (db (v8 c * 2 ^ 4))), .own m3 (nums .u8 (db (v8 c * 2 ^ 3))), .own m2 (nums .u8 (db (v8 c * 2 ^ 2))), .own m1 (nums .u8 (db (v8 c * 2 ^ 1))), .cells p2 [slV y, slV m1, slV m2, slV m3, slV m4, slV m5, slV m6, slV m7], .own v (nums .u8 qs)] ∧ qs.length = a.length ∧ D8 qs ∧ R < v8 c ∧ ∃ i : Nat, s.2 = (i : Int) - 1 ∧ i ≤ a.length ∧ vl 256 (a.drop i) = v8 c * vl 256 (qs.drop i) + R)
    (fun s _ => (s.2 + 1).toNat) ?_ _ _ ⟨_, 0, C, by simp, Dg.zeros (by decide) _, by omega, a.length, rfl, Nat.le_refl _, by rw [List.drop_of_length_le (Nat.le_refl _), List.drop_of_length_le (by simp), vl_nil]; simp⟩
  clear C
  rintro ⟨rest, q⟩ w ⟨qs, R, C, hl, hdq, hR, i, rfl, hi, hv1⟩
  simp only at C ⊢
  have hrl : rest.len = (db R).length := by have := (C.get (i := 0) rfl).1; simpa using this
  have hRl : (db R).length ≤ c.length := dgs_length h256 (Nat.lt_trans hR (v8_lt dc))
  by_cases hi0 : i = 0
  · subst hi0
    refine ok_false (by simp) ?_
    rw [List.drop_zero, List.drop_zero, ← va, ← v8_cast hdq] at hv1
    have hv2 : v8 a = v8 c * v8 qs + R := by exact_mod_cast hv1
    have hq : v8 qs = v8 a / v8 c := by
      rw [hv2, Nat.add_comm, Nat.add_mul_div_left _ _ (by omega), Nat.div_eq_of_lt hR, Nat.zero_add]
    have hr : R = v8 a % v8 c := by
      rw [hv2, Nat.add_comm, Nat.add_mul_mod_self_left, Nat.mod_eq_of_lt hR]
    refine ok_bnd.2 (ok_bnd.2 (ok_mono (rtrim_own (C.ret (i := 9) (xs := nums .u8 qs) rfl) hdq) ?_))
    rintro t w5 ⟨rfl, ht, _, hta⟩
    have C2 := C.recast (i := 9) (new := .own t (nums .u8 (db (v8 qs)))) rfl (own_lower (show Own wb.heap.size w5 t (nums .u8 (db (v8 qs))) from ht) (Nat.zero_le _)) (by simp [It.at_, hta])
    refine ok_ret.2 (ok_ret.2 ?_)
    rw [← hq, ← hr]
    exact C2.pick [0, 9] (by simp)
  obtain ⟨j, rfl⟩ : ∃ j, i = j + 1 := ⟨i - 1, by omega⟩
  have e1 : ((j + 1 : Nat) : Int) - 1 = (j : Int) := by omega
  rw [e1]
  refine ok_true (by simp) ?_
  obtain ⟨d, hdx⟩ := get_some (l := a) (i := j) (by omega)
  have wd := da.get hdx
  obtain ⟨D, rfl⟩ := Int.eq_ofNat_of_zero_le wd.1
  have hD : D < 256 := by have := wd.2; omega
  have hdj : a.drop j = (D : Int) :: a.drop (j + 1) := by
    rw [List.drop_eq_getElem_cons (by omega)]
    rw [List.getElem?_eq_getElem (by omega), Option.some.injEq] at hdx
    rw [hdx]
  refine ok_get (C.old (arr_size hx)) (by omega) (n := (D : Int)) (by rw [Int.toNat_natCast]; exact hdx) ?_
  refine ok_bnd.2 (ok_buildL1 slt61 _ rfl ?_)
  replace C := C.buildN (e := 5) (vs := nums .u8 [(D : Int)]) 1 rfl (by decide)
  refine ok_appendO slt61 C (i := 0) (s := ⟨some ⟨w.heap.size, 0, none⟩, 1, 1⟩) rfl (nums_one _) (arr_src slt61.under (C.arr (i := 1) (xs := nums .u8 (db R)) rfl) (nums_one _)) (show (1 + rest.len) * 1 ≤ 140737488355328 by omega) (show 1 + rest.len ≤ maxLen by omega) fun r w2 C hr => ?_
  rw [← List.map_append] at C
  have hdn : D8 ([(D : Int)] ++ db R) := (Dg.cons Dg.nil (by omega) (by omega)).append (dg_dgs h256 R)
  have hvn : (vl 256 ([(D : Int)] ++ db R)).toNat = D + 256 * R := by
    have h1 : vl 256 (db R) = (R : Int) := vl_dgs h256 R
    rw [List.singleton_append, vl_cons, h1]; omega
  refine ok_bnd.2 (ok_mono (rtrim_own (C.ret (i := 0) rfl) hdn) ?_)
  rintro t w3 ⟨rfl, ht, _, hta⟩
  rw [hvn] at ht
  replace C := C.recast (i := 0) (new := .own t (nums .u8 (db (D + 256 * R)))) rfl (own_lower (show Own wb.heap.size w3 t (nums .u8 (db (D + 256 * R))) from ht) (Nat.zero_le _)) (by simp [It.at_, hta])
  replace C : Cx No wb w3 [.own t (nums .u8 (db (D + 256 * R))), .own m7 (nums .u8 (db (v8 c * 2 ^ 7))), .own m6 (nums .u8 (db (v8 c * 2 ^ 6))), .own m5 (nums .u8 (db (v8 c * 2 ^ 5))), .own m4 (nums .u8 (db (v8 c * 2 ^ 4))), .own m3 (nums .u8 (db (v8 c * 2 ^ 3))), .own m2 (nums .u8 (db (v8 c * 2 ^ 2))), .own m1 (nums .u8 (db (v8 c * 2 ^ 1))), .cells p2 [slV y, slV m1, slV m2, slV m3, slV m4, slV m5, slV m6, slV m7], .own v (nums .u8 qs)] := C.pick [0, 2, 3, 4, 5, 6, 7, 8, 9, 10] (by simp)
  generalize hR0 : D + 256 * R = R0 at *
  have hR0lt : R0 < 256 * v8 c := by rw [← hR0]; omega
  refine ok_loop (fun (s : Sl × (Int × Int)) w' => ∃ (n R1 : Nat), Cx No wb w' [.own s.1 (nums .u8 (db R1)), .own m7 (nums .u8 (db (v8 c * 2 ^ 7))), .own m6 (nums .u8 (db (v8 c * 2 ^ 6))), .own m5 (nums .u8 (db (v8 c * 2 ^ 5))), .own m4 (nums .u8 (db (v8 c * 2 ^ 4))), .own m3 (nums .u8 (db (v8 c * 2 ^ 3))), .own m2 (nums .u8 (db (v8 c * 2 ^ 2))), .own m1 (nums .u8 (db (v8 c * 2 ^ 1))), .cells p2 [slV y, slV m1, slV m2, slV m3, slV m4, slV m5, slV m6, slV m7], .own v (nums .u8 qs)] ∧ ∃ m : Nat, s.2.1 = m ∧ s.2.2 = (n : Int) - 1 ∧ n ≤ 8 ∧ R1 < v8 c * 2 ^ n ∧ m * (v8 c * 2 ^ n) + R1 = R0 ∧ m < 2 ^ (8 - n))
    (fun s _ => (s.2.2 + 1).toNat) ?_ _ _ ⟨8, R0, C, 0, rfl, rfl, by decide, by rw [show (2 : Nat) ^ 8 = 256 from rfl]; omega, by omega, by decide⟩
  clear C ht hta
  rintro ⟨r1, nn, kk⟩ w4 ⟨n, R1, C, m, hm1, hm2, hn8, hR1, hval, hmlt⟩
  simp only at C hm1 hm2 ⊢
  subst hm1 hm2
  have hmb : m < 256 := Nat.lt_of_lt_of_le hmlt (Nat.pow_le_pow_right (n := 2) (by decide) (show 8 - n ≤ 8 by omega))
  by_cases hn0 : n = 0
  · subst hn0
    refine ok_false (by simp) ?_
    rw [Nat.pow_zero, Nat.mul_one] at hR1 hval
    refine ok_bnd.2 ?_
    refine ok_ixO hb (by omega) (by omega) ?_
    rw [Int.toNat_natCast, wrap8_in (n := (m : Int)) ⟨by omega, by omega⟩]
    refine ok_wrO C (i := 9) rfl hb (by omega) fun w5 C5 => ok_ret.2 (ok_ret.2 ⟨⟨_, R1, C5, by simp [hl], hdq.set _ (by omega) (by omega), hR1, j, ?_, by omega, ?_⟩, ?_⟩)
    · show IntKind.wrap .i64 ((j : Int) - 1) = _
      rw [wrapI_in (by omega)]
    · have edo : (qs.set j (m : Int)).drop j = (m : Int) :: qs.drop (j + 1) := by
        rw [List.drop_eq_getElem_cons (by rw [List.length_set]; omega), List.getElem_set_self, List.drop_set_of_lt (by omega)]
      rw [edo, hdj, vl_cons, vl_cons, hv1]
      have h5 : ((m * v8 c + R1 : Nat) : Int) = ((D + 256 * R : Nat) : Int) := by rw [hval, hR0]
      rw [Int.natCast_add, Int.natCast_mul, Int.natCast_add, Int.natCast_mul] at h5
      grind
    · show (IntKind.wrap .i64 ((j : Int) - 1) + 1).toNat < _
      rw [wrapI_in (by omega)]; omega
  obtain ⟨k, rfl⟩ : ∃ k, n = k + 1 := ⟨n - 1, by omega⟩
  have e2 : ((k + 1 : Nat) : Int) - 1 = (k : Int) := by omega
  rw [e2]
  refine ok_true (by simp) ?_
  obtain ⟨s, l, hsk, hdl, hvl, hll, hAl⟩ := key k (by omega)
  have hR1l : (db R1).length ≤ 1000000 := by
    have h1 : (db R1).length ≤ c.length + 2 := by
      refine dgs_length h256 ?_
      have h2 := v8_lt dc
      have h3 : 2 ^ (k + 1) ≤ 2 ^ 8 := Nat.pow_le_pow_right (by decide) hn8
      have h4 : v8 c * 2 ^ (k + 1) ≤ v8 c * 2 ^ 8 := Nat.mul_le_mul_left _ h3
      rw [Nat.pow_succ, Nat.pow_succ]
      generalize 256 ^ c.length = P at *
      omega
    omega
  refine ok_ixA (k := k) rfl (by omega) ?_
  refine ok_rdL C 8 rfl (t := .sl) (x := s) (rdv_sl hsk) ?_
  refine ok_bnd.2 (ok_mono (rcmp_spec (C.arr (i := 0) (xs := nums .u8 (db R1)) rfl) (hAl _ _ _ C) (dg_dgs h256 _) hdl hR1l hll) ?_)
  rintro _ w5 ⟨rfl, rfl⟩
  rw [v8_db, hvl]
  have e3 : IntKind.wrap .i64 (2 * (m : Int)) = ((2 * m : Nat) : Int) := by rw [wrapI_in (by omega)]; omega
  have e4 : IntKind.wrap .i64 (((2 * m : Nat) : Int) + 1) = ((2 * m + 1 : Nat) : Int) := by rw [wrapI_in (by omega)]; omega
  rw [e3, e4]
  have hpw : v8 c * 2 ^ (k + 1) = 2 * (v8 c * 2 ^ k) := by rw [Nat.pow_succ, ← Nat.mul_assoc]; omega
  have hp8 : 2 ^ (8 - k) = 2 * 2 ^ (8 - (k + 1)) := by rw [show 8 - k = 8 - (k + 1) + 1 by omega, Nat.pow_succ]; omega
  have e5 : IntKind.wrap .i64 ((k : Int) - 1) = (k : Int) - 1 := wrapI_in (by omega)
  by_cases hge : v8 c * 2 ^ k ≤ R1
  · refine ok_tB (by unfold cmpN; simp only [ge_iff_le, decide_eq_true_eq]; rw [if_neg (by omega)]; split <;> decide) ?_
    refine ok_assoc (ok_ixA (k := k) rfl (by omega) ?_)
    refine ok_assoc (ok_rdL C 8 rfl (t := .sl) (x := s) (rdv_sl hsk) ?_)
    refine ok_assoc (ok_callL C (minus_spec (C.arr (i := 0) (xs := nums .u8 (db R1)) rfl) (hAl _ _ _ C) (dg_dgs h256 _) hdl hR1l hll (by rw [v8_db, hvl]; exact hge)) (fun r w' h => h.1) ?_)
    rintro r2 w6 ⟨hB, hr2⟩ _
    rw [v8_db, hvl] at hr2
    replace C := C.addOwn hB hr2
    refine ok_retB (ok_ret.2 ⟨⟨k, R1 - v8 c * 2 ^ k, C.pick [0, 2, 3, 4, 5, 6, 7, 8, 9, 10] (by simp), 2 * m + 1, rfl, e5, by omega, ?_, ?_, ?_⟩, ?_⟩)
    · generalize v8 c * 2 ^ k = Z at *; omega
    · rw [hpw] at hval
      generalize v8 c * 2 ^ k = Z at *
      have : (2 * m + 1) * Z = m * (2 * Z) + Z := by grind
      omega
    · omega
    · show (IntKind.wrap .i64 ((k : Int) - 1) + 1).toNat < _
      rw [e5]; omega
  · refine ok_fB (by unfold cmpN; simp only [ge_iff_le, decide_eq_false_iff_not]; rw [if_pos (by omega)]; decide) ?_
    refine ok_retB (ok_ret.2 ⟨⟨k, R1, C, 2 * m, rfl, e5, by omega, by omega, ?_, ?_⟩, ?_⟩)
    · rw [hpw] at hval
      generalize v8 c * 2 ^ k = Z at *
      have : (2 * m) * Z = m * (2 * Z) := by grind
      omega
    · omega
    · show (IntKind.wrap .i64 ((k : Int) - 1) + 1).toNat < _
      rw [e5]; omega
end Go.Proofs.Ytoekfjgikicclaa
