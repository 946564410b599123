/-
  Part of the proof: L44. It states what the functions do; no further condition.
-/
import Derived.Test.YtoekfjgikicclaaL40
set_option linter.unusedVariables false
set_option linter.unusedSimpArgs false
namespace Go.Proofs.Ytoekfjgikicclaa
set_option linter.unusedVariables false
open Go.Sh Go.RowKit
set_option maxRecDepth 100000
/-! ### The document's bits -/
theorem far_ex2 (a b : Lg) : ∃ r, Is (f13_palaverlaw09_far a b) r := by
  refine ⟨decide (1048576 < a.2.size ∨ 1048576 < b.2.size), fun wb => ?_⟩
  unfold f13_palaverlaw09_far
  have C := Cx.nil No wb
  repeat first
    | with_reducible refine ok_assoc ?_
    | with_reducible refine ok_retB ?_
    | (with_reducible refine ah_newC ?_; refine ok_newL C fun bq w C => ?_)
    | (with_reducible refine ah_ord ?_; refine ok_ordL C fun oq w C => ?_)
    | (with_reducible refine ah_draw ?_; refine ok_drawL C fun w C => ?_)
    | (with_reducible refine ah_ldA ?_; first | refine w_ldA1 C ?_ | refine w_ldA2 C ?_)
    | (with_reducible refine ah_ldA3 ?_; refine w_ldA3 C ?_)
    | (with_reducible refine ah_ldA4 ?_; refine w_ldA4 C ?_)
    | (with_reducible refine ah_chA ?_; first | refine w_chA1 C ?_ | refine w_chA2 C ?_)
    | (with_reducible refine ah_chA3 ?_; refine w_chA3 C ?_)
    | (with_reducible refine ah_wrA ?_; refine w_wrA1 C fun w C => ?_)
  by_cases h : 1048576 < a.2.size
  · refine ok_tB (by simp only [gt_iff_lt, decide_eq_true_eq]; omega) ?_
    repeat first
      | with_reducible refine ok_assoc ?_
      | with_reducible refine ok_retB ?_
      | (with_reducible refine ah_newC ?_; refine ok_newL C fun bq w C => ?_)
      | (with_reducible refine ah_ord ?_; refine ok_ordL C fun oq w C => ?_)
      | (with_reducible refine ah_draw ?_; refine ok_drawL C fun w C => ?_)
      | (with_reducible refine ah_ldA ?_; first | refine w_ldA1 C ?_ | refine w_ldA2 C ?_)
      | (with_reducible refine ah_ldA3 ?_; refine w_ldA3 C ?_)
      | (with_reducible refine ah_ldA4 ?_; refine w_ldA4 C ?_)
      | (with_reducible refine ah_chA ?_; first | refine w_chA1 C ?_ | refine w_chA2 C ?_)
      | (with_reducible refine ah_chA3 ?_; refine w_chA3 C ?_)
      | (with_reducible refine ah_wrA ?_; refine w_wrA1 C fun w C => ?_)
    exact ok_ret.2 ⟨C.below, by simp [h]⟩
  · refine ok_fB (by simp only [gt_iff_lt, decide_eq_false_iff_not]; omega) ?_
    repeat first
      | with_reducible refine ok_assoc ?_
      | with_reducible refine ok_retB ?_
      | (with_reducible refine ah_newC ?_; refine ok_newL C fun bq w C => ?_)
      | (with_reducible refine ah_ord ?_; refine ok_ordL C fun oq w C => ?_)
      | (with_reducible refine ah_draw ?_; refine ok_drawL C fun w C => ?_)
      | (with_reducible refine ah_ldA ?_; first | refine w_ldA1 C ?_ | refine w_ldA2 C ?_)
      | (with_reducible refine ah_ldA3 ?_; refine w_ldA3 C ?_)
      | (with_reducible refine ah_ldA4 ?_; refine w_ldA4 C ?_)
      | (with_reducible refine ah_chA ?_; first | refine w_chA1 C ?_ | refine w_chA2 C ?_)
      | (with_reducible refine ah_chA3 ?_; refine w_chA3 C ?_)
      | (with_reducible refine ah_wrA ?_; refine w_wrA1 C fun w C => ?_)
    refine ok_ret.2 ⟨C.below, ?_⟩
    rw [decide_eq_decide]
    omega
theorem db_one : db 1 = [1] := by
  unfold db
  rw [dgs_pos h256 (by decide), show 1 / 256 = 0 from by decide, dgs_zero]
  rfl
theorem ones_spec {x : Int} (hx : ¬ tooBig x.natAbs) {n : Nat} (hn : (db x.natAbs).length ≤ n) (hn2 : n ≤ 1000000) (wb : World) :
    Ok (f90_palaverref09_ones (lg x) (n : Int)) wb fun r w' => ∃ l, Cx No wb w' [.own r (nums .u8 l)] ∧ D8 l ∧ l.length = n ∧ vl 256 l = x % 256 ^ n := by
  unfold f90_palaverref09_ones
  have C := Cx.nil No wb
  have lx := tb_len hx
  refine ok_newL C fun b1 w C => ?_
  repeat first
    | with_reducible refine ok_assoc ?_
    | with_reducible refine ok_retB ?_
    | (with_reducible refine ah_newC ?_; refine ok_newL C fun bq w C => ?_)
    | (with_reducible refine ah_ord ?_; refine ok_ordL C fun oq w C => ?_)
    | (with_reducible refine ah_draw ?_; refine ok_drawL C fun w C => ?_)
    | (with_reducible refine ah_ldA ?_; first | refine w_ldA1 C ?_ | refine w_ldA2 C ?_)
    | (with_reducible refine ah_ldA3 ?_; refine w_ldA3 C ?_)
    | (with_reducible refine ah_ldA4 ?_; refine w_ldA4 C ?_)
    | (with_reducible refine ah_chA ?_; first | refine w_chA1 C ?_ | refine w_chA2 C ?_)
    | (with_reducible refine ah_chA3 ?_; refine w_chA3 C ?_)
    | (with_reducible refine ah_wrA ?_; refine w_wrA1 C fun w C => ?_)
  refine ok_toBytes C und9 slt61.under und5 (tb_max hx) fun vx w C hvx => ?_
  rw [bl_lg] at C
  repeat first
    | with_reducible refine ok_assoc ?_
    | with_reducible refine ok_retB ?_
    | (with_reducible refine ah_newC ?_; refine ok_newL C fun bq w C => ?_)
    | (with_reducible refine ah_ord ?_; refine ok_ordL C fun oq w C => ?_)
    | (with_reducible refine ah_draw ?_; refine ok_drawL C fun w C => ?_)
    | (with_reducible refine ah_ldA ?_; first | refine w_ldA1 C ?_ | refine w_ldA2 C ?_)
    | (with_reducible refine ah_ldA3 ?_; refine w_ldA3 C ?_)
    | (with_reducible refine ah_ldA4 ?_; refine w_ldA4 C ?_)
    | (with_reducible refine ah_chA ?_; first | refine w_chA1 C ?_ | refine w_chA2 C ?_)
    | (with_reducible refine ah_chA3 ?_; refine w_chA3 C ?_)
    | (with_reducible refine ah_wrA ?_; refine w_wrA1 C fun w C => ?_)
  rw [lg_neg]
  have dx : D8 (db x.natAbs) := dg_dgs h256 _
  have hxlt : (x.natAbs : Int) < 256 ^ n := by
    have h1 := lt_dgs h256 x.natAbs
    have h2 : 256 ^ (dgs 256 x.natAbs).length ≤ 256 ^ n := Nat.pow_le_pow_right (by decide) hn
    have h3 : x.natAbs < 256 ^ n := by omega
    exact_mod_cast h3
  -- the digits that are looked at
  refine ok_bnd.2 (ok_mono (Q := fun s w' => ∃ l, Cx No wb w' [.own s (nums .u8 l), .cells b1 [.bool (lg x).1, .string (lg x).2]] ∧ D8 l ∧ l.length ≤ 100000 ∧ vl 256 l = if x < 0 then -x - 1 else x) ?_ ?_)
  · by_cases h : x < 0
    · refine ok_true (by simpa using h) ?_
      refine ok_bnd.2 (ok_buildL1 slt61 _ rfl ?_)
      replace C := C.buildN (e := 5) (vs := nums .u8 [(1 : Int)]) 1 rfl (by decide)
      refine ok_callL C (minus_spec (y := ⟨some ⟨w.heap.size, 0, none⟩, 1, 1⟩) (a := db x.natAbs) (c := [(1 : Int)]) (C.arr (i := 1) rfl) (C.arr (i := 0) (xs := nums .u8 [(1 : Int)]) rfl) dx (Dg.cons Dg.nil (by decide) (by decide)) (by omega) (by decide) (by rw [v8_db]; show 1 ≤ x.natAbs; omega)) (fun r w' h => h.1) ?_
      rintro r w1 ⟨hB, hr⟩ _
      have e1 : v8 (db x.natAbs) - v8 [(1 : Int)] = x.natAbs - 1 := by rw [v8_db]; rfl
      rw [e1] at hr
      replace C := C.addOwn hB hr
      refine ok_ret.2 ⟨db (x.natAbs - 1), C.pick [0, 3] (by simp), dg_dgs h256 _, ?_, ?_⟩
      · have h1 := lt_dgs h256 x.natAbs
        have h2 : (db (x.natAbs - 1)).length ≤ (dgs 256 x.natAbs).length := dgs_length h256 (by omega)
        have h3 : (dgs 256 x.natAbs).length = (db x.natAbs).length := rfl
        omega
      · rw [if_pos h]
        have : vl 256 (db (x.natAbs - 1)) = ((x.natAbs - 1 : Nat) : Int) := vl_dgs h256 _
        rw [this]; omega
    · refine ok_false (by simpa using h) (ok_ret.2 ⟨db x.natAbs, C, dx, by omega, ?_⟩)
      rw [if_neg h]
      have : vl 256 (db x.natAbs) = ((x.natAbs : Nat) : Int) := vl_dgs h256 _
      rw [this]; omega
  rintro s w ⟨l, C, hdl, hll, hvl⟩
  refine ok_makeN slt61 C (by omega) (by omega) (by omega) fun v w hv ⟨bv, hb⟩ C => ?_
  rw [Int.toNat_natCast] at C hv
  refine ok_loop (fun (q : Int) w' => ∃ out, Cx No wb w' [.own v (nums .u8 out), .own s (nums .u8 l), .cells b1 [.bool (lg x).1, .string (lg x).2]] ∧ out.length = n ∧ D8 out ∧ ∃ i : Nat, q = i ∧ i ≤ n ∧ vl 256 (out.take i) = if x < 0 then 256 ^ i - 1 - vl 256 (l.take i) else vl 256 (l.take i))
    (fun q _ => (n - q).toNat) ?_ _ _ ⟨_, C, by simp, Dg.zeros (by decide) _, 0, rfl, Nat.zero_le _, by simp [vl]⟩
  clear C
  rintro q w ⟨out, C, hl, hd, i, rfl, hi, hv1⟩
  by_cases hlt : i < n
  · refine ok_true (by simp only [decide_eq_true_eq]; omega) ?_
    refine ok_bnd.2 (ok_mono (digit_spec (C.arr (i := 1) (xs := nums .u8 l) rfl) hdl i) ?_)
    rintro _ w ⟨rfl, rfl⟩
    repeat first
      | with_reducible refine ok_assoc ?_
      | with_reducible refine ok_retB ?_
      | (with_reducible refine ah_newC ?_; refine ok_newL C fun bq w C => ?_)
      | (with_reducible refine ah_ord ?_; refine ok_ordL C fun oq w C => ?_)
      | (with_reducible refine ah_draw ?_; refine ok_drawL C fun w C => ?_)
      | (with_reducible refine ah_ldA ?_; first | refine w_ldA1 C ?_ | refine w_ldA2 C ?_)
      | (with_reducible refine ah_ldA3 ?_; refine w_ldA3 C ?_)
      | (with_reducible refine ah_ldA4 ?_; refine w_ldA4 C ?_)
      | (with_reducible refine ah_chA ?_; first | refine w_chA1 C ?_ | refine w_chA2 C ?_)
      | (with_reducible refine ah_chA3 ?_; refine w_chA3 C ?_)
      | (with_reducible refine ah_wrA ?_; refine w_wrA1 C fun w C => ?_)
    have hg := gd_rng hdl i
    have h3 := vl_take_gd 256 l i
    generalize gd l i = d at *
    refine ok_bnd.2 (ok_mono (Q := fun t w' => w' = w ∧ t = if x < 0 then 255 - d else d) ?_ ?_)
    · rw [lg_neg]
      by_cases h : x < 0
      · exact ok_true (by simpa using h) (ok_ret.2 ⟨rfl, by rw [if_pos h, wrapI_in (by omega)]⟩)
      · exact ok_false (by simpa using h) (ok_ret.2 ⟨rfl, by rw [if_neg h]⟩)
    rintro _ w ⟨rfl, rfl⟩
    have ht : 0 ≤ (if x < 0 then 255 - d else d) ∧ (if x < 0 then 255 - d else d) < 256 := by split <;> omega
    rw [wrap8_in ht]
    refine ok_ixO hb (by omega) (by omega) ?_
    rw [Int.toNat_natCast]
    refine ok_wrO C (i := 0) rfl hb (by omega) fun w5 C5 => ok_ret.2 ⟨⟨_, C5, by simp [hl], hd.set _ ht.1 ht.2, i + 1, ?_, by omega, ?_⟩, ?_⟩
    · rw [wrapI_in (by omega)]; simp
    · rw [vl_take_set (by omega), hv1, h3, Int.pow_succ]
      by_cases h : x < 0
      · simp only [h, if_true]; grind
      · simp only [h, if_false]
    · rw [wrapI_in (by omega)]; omega
  · have hie : i = n := by omega
    subst hie
    refine ok_false (by simp only [decide_eq_false_iff_not]; omega) (ok_ret.2 ⟨out, C.pick [0] (by simp), hd, hl, ?_⟩)
    have hlt2 : vl 256 l < 256 ^ i := by rw [hvl]; split <;> omega
    have htk : vl 256 (l.take i) = vl 256 l := by
      by_cases h : l.length ≤ i
      · rw [List.take_of_length_le h]
      · exact (vl_drop_zero (b := 256) (by decide) hdl hlt2 (by omega)).2
    rw [List.take_of_length_le (by omega), htk, hvl] at hv1
    rw [hv1]
    by_cases h : x < 0
    · simp only [h, if_true]
      rw [← Int.add_mul_emod_self_left x (256 ^ i) 1, Int.mul_one]
      rw [Int.emod_eq_of_lt (by omega) (by omega)]
      omega
    · simp only [h, if_false]
      exact (Int.emod_eq_of_lt (by omega) (by omega)).symm
theorem digit8 {l : List Int} {i : Nat} {d : Int} (hd : D8 l) (h : l[i]? = some d) : (vl 256 l).toNat / 256 ^ i % 256 = d.toNat := by
  have hi : i < l.length := by
    rcases Nat.lt_or_ge i l.length with h' | h'
    · exact h'
    · rw [List.getElem?_eq_none h'] at h; cases h
  have e := vl_drop_take (b := 256) i (Nat.le_of_lt hi)
  rw [List.getElem?_eq_getElem hi, Option.some.injEq] at h
  rw [List.drop_eq_getElem_cons hi, vl_cons, h] at e
  have h1 := vl_nonneg (b := 256) (by decide) (hd.take i)
  have h2 := vl_nonneg (b := 256) (by decide) (hd.drop (i + 1))
  have h3 := vl_lt (b := 256) (by decide) (hd.take i)
  rw [List.length_take, Nat.min_eq_left (by omega)] at h3
  have hw := hd _ (List.getElem_mem hi)
  rw [h] at hw
  obtain ⟨lo, hlo⟩ := Int.eq_ofNat_of_zero_le h1
  obtain ⟨hi', hhi⟩ := Int.eq_ofNat_of_zero_le h2
  obtain ⟨D, rfl⟩ := Int.eq_ofNat_of_zero_le hw.1
  rw [hlo, hhi] at e
  rw [hlo] at h3
  have e2 : vl 256 l = ((lo + 256 ^ i * (D + 256 * hi') : Nat) : Int) := by
    rw [e, Int.natCast_add, Int.natCast_mul, Int.natCast_pow, Int.natCast_add, Int.natCast_mul]; rfl
  have h4 : lo < 256 ^ i := by exact_mod_cast h3
  have h5 : D < 256 := by exact_mod_cast hw.2
  rw [e2, Int.toNat_natCast, Int.toNat_natCast, Nat.add_mul_div_left _ _ (Nat.pow_pos (by decide)), Nat.div_eq_of_lt h4, Nat.zero_add, Nat.add_mul_mod_self_left, Nat.mod_eq_of_lt h5]
theorem bit8 {l : List Int} {i k : Nat} {d : Int} (hd : D8 l) (h : l[i]? = some d) (hk : k < 8) : (vl 256 l).toNat.testBit (8 * i + k) = d.toNat.testBit k := by
  rw [← digit8 hd h]
  have e : 256 ^ i = 2 ^ (8 * i) := by rw [Nat.pow_mul]
  rw [e, show ∀ a, a % 256 = a % 2 ^ 8 from fun _ => rfl, Nat.testBit_mod_two_pow, Nat.testBit_div_two_pow]
  simp [hk, Nat.add_comm]
theorem bit8_mod {l : List Int} {z : Int} {N j : Nat} (hd : D8 l) (h : vl 256 l = z % 256 ^ N) (hj : j < 8 * N) : (vl 256 l).toNat.testBit j = zb z j := by
  have hn := vl_nonneg (b := 256) (by decide) hd
  rw [← zb_nat, Int.toNat_of_nonneg hn, h]
  have : (256 : Int) ^ N = 2 ^ (8 * N) := by rw [Int.pow_mul]; rfl
  rw [this, zb_mod _ _ _ hj]
theorem u8_ofInt (x : Nat) (hx : x < 256) : (BitVec.ofInt 8 (x : Int)).toNat = x := by rw [BitVec.toNat_ofInt]; omega
theorem u8_and (x y : Nat) (hx : x < 256) (hy : y < 256) : bAnd .u8 x y = ((x &&& y : Nat) : Int) := by
  have h := Nat.and_lt_two_pow (n := 8) x hy
  unfold bAnd
  show IntKind.wrap .u8 (((BitVec.ofInt 8 (x : Int) &&& BitVec.ofInt 8 (y : Int)).toNat : Nat) : Int) = _
  rw [BitVec.toNat_and, u8_ofInt x hx, u8_ofInt y hy, wrap8, Nat.mod_eq_of_lt h]
theorem u8_or (x y : Nat) (hx : x < 256) (hy : y < 256) : bOr .u8 x y = ((x ||| y : Nat) : Int) := by
  have h := Nat.or_lt_two_pow (n := 8) hx hy
  unfold bOr
  show IntKind.wrap .u8 (((BitVec.ofInt 8 (x : Int) ||| BitVec.ofInt 8 (y : Int)).toNat : Nat) : Int) = _
  rw [BitVec.toNat_or, u8_ofInt x hx, u8_ofInt y hy, wrap8, Nat.mod_eq_of_lt h]
theorem u8_xor (x y : Nat) (hx : x < 256) (hy : y < 256) : bXor .u8 x y = ((x ^^^ y : Nat) : Int) := by
  have h := Nat.xor_lt_two_pow (n := 8) hx hy
  unfold bXor
  show IntKind.wrap .u8 (((BitVec.ofInt 8 (x : Int) ^^^ BitVec.ofInt 8 (y : Int)).toNat : Nat) : Int) = _
  rw [BitVec.toNat_xor, u8_ofInt x hx, u8_ofInt y hy, wrap8, Nat.mod_eq_of_lt h]
/-- How the document puts digits together. -/
def Hop (how : Int) (f : Bool → Bool → Bool) (g : Int → Int → Int) : Prop := (how = 0 ∧ f = and ∧ g = bAnd .u8) ∨ (how = 1 ∧ f = or ∧ g = bOr .u8) ∨ (how = 2 ∧ f = xor ∧ g = bXor .u8)
theorem Hop.f0 {how : Int} {f : Bool → Bool → Bool} {g : Int → Int → Int} (H : Hop how f g) : f false false = false := by
  rcases H with ⟨_, rfl, _⟩ | ⟨_, rfl, _⟩ | ⟨_, rfl, _⟩ <;> rfl
theorem Hop.word {how : Int} {f : Bool → Bool → Bool} {g : Int → Int → Int} (H : Hop how f g) (x y : Nat) (hx : x < 256) (hy : y < 256) : ∃ z : Nat, g x y = z ∧ z < 256 ∧ ∀ i, z.testBit i = f (x.testBit i) (y.testBit i) := by
  rcases H with ⟨_, rfl, rfl⟩ | ⟨_, rfl, rfl⟩ | ⟨_, rfl, rfl⟩
  · exact ⟨x &&& y, u8_and x y hx hy, Nat.and_lt_two_pow (n := 8) x hy, fun i => Nat.testBit_and ..⟩
  · exact ⟨x ||| y, u8_or x y hx hy, Nat.or_lt_two_pow (n := 8) hx hy, fun i => Nat.testBit_or ..⟩
  · exact ⟨x ^^^ y, u8_xor x y hx hy, Nat.xor_lt_two_pow (n := 8) hx hy, fun i => Nat.testBit_xor ..⟩
theorem rlogic_is {how : Int} {f : Bool → Bool → Bool} {g : Int → Int → Int} (O : Hop how f g) (a c : Lg) : Is (f67_palaverref09_logic a c how) (logR f a c) := by
  intro wb
  unfold f67_palaverref09_logic
  have C := Cx.nil No wb
  repeat first
    | with_reducible refine ok_assoc ?_
    | with_reducible refine ok_retB ?_
    | with_reducible refine ok_is C (both_is _ _) fun w C => ?_
    | (with_reducible refine ah_newC ?_; refine ok_newL C fun bq w C => ?_)
    | (with_reducible refine ah_ord ?_; refine ok_ordL C fun oq w C => ?_)
    | (with_reducible refine ah_draw ?_; refine ok_drawL C fun w C => ?_)
    | (with_reducible refine ah_ldA ?_; first | refine w_ldA1 C ?_ | refine w_ldA2 C ?_)
    | (with_reducible refine ah_ldA3 ?_; refine w_ldA3 C ?_)
    | (with_reducible refine ah_ldA4 ?_; refine w_ldA4 C ?_)
    | (with_reducible refine ah_chA ?_; first | refine w_chA1 C ?_ | refine w_chA2 C ?_)
    | (with_reducible refine ah_chA3 ?_; refine w_chA3 C ?_)
    | (with_reducible refine ah_wrA ?_; refine w_wrA1 C fun w C => ?_)
  obtain ⟨b3, hb3⟩ : ∃ b3, b3 = bq := ⟨bq, rfl⟩
  subst hb3
  by_cases h : ck2 a c = 0
  rotate_left
  · unfold logR
    rw [if_neg h]
    refine ok_true (by simpa using h) ?_
    repeat first
      | with_reducible refine ok_assoc ?_
      | with_reducible refine ok_retB ?_
      | (with_reducible refine ah_newC ?_; refine ok_newL C fun bq w C => ?_)
      | (with_reducible refine ah_ord ?_; refine ok_ordL C fun oq w C => ?_)
      | (with_reducible refine ah_draw ?_; refine ok_drawL C fun w C => ?_)
      | (with_reducible refine ah_ldA ?_; first | refine w_ldA1 C ?_ | refine w_ldA2 C ?_)
      | (with_reducible refine ah_ldA3 ?_; refine w_ldA3 C ?_)
      | (with_reducible refine ah_ldA4 ?_; refine w_ldA4 C ?_)
      | (with_reducible refine ah_chA ?_; first | refine w_chA1 C ?_ | refine w_chA2 C ?_)
      | (with_reducible refine ah_chA3 ?_; refine w_chA3 C ?_)
      | (with_reducible refine ah_wrA ?_; refine w_wrA1 C fun w C => ?_)
    exact ok_ret.2 ⟨C.below, rfl⟩
  obtain ⟨ha, hb'⟩ := ck2_zero.1 h
  obtain ⟨x, rfl, hx⟩ := ck_ex ha
  obtain ⟨y, rfl, hy⟩ := ck_ex hb'
  have lx := tb_len hx
  have ly := tb_len hy
  rw [logR_lg hx hy]
  refine ok_false (by simpa using h) ?_
  repeat first
    | with_reducible refine ok_assoc ?_
    | with_reducible refine ok_retB ?_
    | (with_reducible refine ah_newC ?_; refine ok_newL C fun bq w C => ?_)
    | (with_reducible refine ah_ord ?_; refine ok_ordL C fun oq w C => ?_)
    | (with_reducible refine ah_draw ?_; refine ok_drawL C fun w C => ?_)
    | (with_reducible refine ah_ldA ?_; first | refine w_ldA1 C ?_ | refine w_ldA2 C ?_)
    | (with_reducible refine ah_ldA3 ?_; refine w_ldA3 C ?_)
    | (with_reducible refine ah_ldA4 ?_; refine w_ldA4 C ?_)
    | (with_reducible refine ah_chA ?_; first | refine w_chA1 C ?_ | refine w_chA2 C ?_)
    | (with_reducible refine ah_chA3 ?_; refine w_chA3 C ?_)
    | (with_reducible refine ah_wrA ?_; refine w_wrA1 C fun w C => ?_)
  obtain ⟨N, hN, hNa, hNc, hN2⟩ : ∃ N : Nat, IntKind.wrap .i64 ((maxI ((lg x).2.size : Int) ((lg y).2.size : Int)) + 1) = ((N + 1 : Nat) : Int) ∧ (db x.natAbs).length ≤ N ∧ (db y.natAbs).length ≤ N ∧ N ≤ 4096 := by
    rw [lg_size, lg_size, maxI_nat]
    exact ⟨max (db x.natAbs).length (db y.natAbs).length, by rw [wrapI_in (by omega)]; omega, by omega, by omega, by omega⟩
  rw [hN]
  refine ok_bnd.2 (ok_mono (ones_spec hx (n := N + 1) (by omega) (by omega) _) ?_)
  rintro P w2 ⟨lp, D, dp, lpl, vp⟩
  replace C := C.join D
  simp only [List.cons_append, List.nil_append] at C
  repeat first
    | with_reducible refine ok_assoc ?_
    | with_reducible refine ok_retB ?_
    | (with_reducible refine ah_newC ?_; refine ok_newL C fun bq w C => ?_)
    | (with_reducible refine ah_ord ?_; refine ok_ordL C fun oq w C => ?_)
    | (with_reducible refine ah_draw ?_; refine ok_drawL C fun w C => ?_)
    | (with_reducible refine ah_ldA ?_; first | refine w_ldA1 C ?_ | refine w_ldA2 C ?_)
    | (with_reducible refine ah_ldA3 ?_; refine w_ldA3 C ?_)
    | (with_reducible refine ah_ldA4 ?_; refine w_ldA4 C ?_)
    | (with_reducible refine ah_chA ?_; first | refine w_chA1 C ?_ | refine w_chA2 C ?_)
    | (with_reducible refine ah_chA3 ?_; refine w_chA3 C ?_)
    | (with_reducible refine ah_wrA ?_; refine w_wrA1 C fun w C => ?_)
  refine ok_bnd.2 (ok_mono (ones_spec hy (n := N + 1) (by omega) (by omega) _) ?_)
  rintro Q w3 ⟨lq, D, dq, lql, vq⟩
  replace C := C.join D
  simp only [List.cons_append, List.nil_append] at C
  refine ok_makeN slt61 C (by omega) (by omega) (by omega) fun v w hv ⟨bv, hb⟩ C => ?_
  rw [Int.toNat_natCast] at C hv
  replace C : Cx No wb w [.own v (nums .u8 (List.replicate (N + 1) 0)), .own Q (nums .u8 lq), .own P (nums .u8 lp), .cells b3 [.bool false, .string (ByteArray.mk #[])]] := C.pick [0, 1, 2, 3] (by simp)
  refine ok_loop (fun (q : Int) w' => ∃ out, Cx No wb w' [.own v (nums .u8 out), .own Q (nums .u8 lq), .own P (nums .u8 lp), .cells b3 [.bool false, .string (ByteArray.mk #[])]] ∧ out.length = N + 1 ∧ D8 out ∧ ∃ i : Nat, q = i ∧ i ≤ N + 1 ∧ ∀ j x y, j < i → lp[j]? = some x → lq[j]? = some y → out[j]? = some (g x y))
    (fun q _ => ((N + 1 : Nat) - q).toNat) ?_ _ _ ⟨_, C, by simp, Dg.zeros (by decide) _, 0, rfl, Nat.zero_le _, fun j _ _ hj => by omega⟩
  clear C
  rintro q w ⟨out, C, hl, hd, i, rfl, hi, hv1⟩
  by_cases hlt : i < N + 1
  · refine ok_true (by simp only [decide_eq_true_eq]; omega) ?_
    obtain ⟨p, hp⟩ := get_some (l := lp) (i := i) (by omega)
    obtain ⟨q, hq⟩ := get_some (l := lq) (i := i) (by omega)
    have wp := dp.get hp
    have wq := dq.get hq
    obtain ⟨X, rfl⟩ := Int.eq_ofNat_of_zero_le wp.1
    obtain ⟨Y, rfl⟩ := Int.eq_ofNat_of_zero_le wq.1
    obtain ⟨Z, hZ, hZ1, _⟩ := O.word X Y (by have h9 := wp.2; omega) (by have h9 := wq.2; omega)
    -- one digit
    have fin : ∀ {f : Unit → M (Int ⊕ ((Bool × ByteArray) × Int))} {Q' : (Int ⊕ ((Bool × ByteArray) × Int)) → World → Prop} {F : FuncId} {n : Nat} {ops : Array Oper}, (∀ w', Cx No wb w' [.own v (nums .u8 (out.set i (g X Y))), .own Q (nums .u8 lq), .own P (nums .u8 lp), .cells b3 [.bool false, .string (ByteArray.mk #[])]] → Ok (f ()) w' Q') →
        Ok (bnd (bnd (bnd (ordM F n ops) fun (o18 : List Nat) =>
  bnd (ix 1 P (i : Int)) fun (p19 : Addr) =>
  bnd (ld (.int .u8) p19) fun (v20 : Int) =>
  bnd (ix 1 Q (i : Int)) fun (p21 : Addr) =>
  bnd (ld (.int .u8) p21) fun (v22 : Int) =>
  bnd (ix 1 v (i : Int)) fun (p23 : Addr) =>
  bnd (wrs p23 0 [.int .u8 (g v20 v22)]) fun _ =>
  bnd (ret ()) fun _ =>
  ret ()) fun (s17 : Unit) => ret ()) f) w Q' := by
      intro f Q' F n ops hq'
      simp only [bnd_as, bnd_ret]
      refine ok_ordL C fun o w C => ?_
      refine ok_get (C.arr (i := 2) (xs := nums .u8 lp) rfl) (by omega) (n := (X : Int)) (by rw [Int.toNat_natCast]; exact hp) ?_
      refine ok_get (C.arr (i := 1) (xs := nums .u8 lq) rfl) (by omega) (n := (Y : Int)) (by rw [Int.toNat_natCast]; exact hq) ?_
      refine ok_ixO hb (by omega) (by omega) ?_
      rw [Int.toNat_natCast]
      exact ok_wrO C (i := 0) rfl hb (by omega) fun w5 C5 => hq' w5 C5
    have rest : ∀ w', Cx No wb w' [.own v (nums .u8 (out.set i (g X Y))), .own Q (nums .u8 lq), .own P (nums .u8 lp), .cells b3 [.bool false, .string (ByteArray.mk #[])]] →
        (∃ o', Cx No wb w' [.own v (nums .u8 o'), .own Q (nums .u8 lq), .own P (nums .u8 lp), .cells b3 [.bool false, .string (ByteArray.mk #[])]] ∧ o'.length = N + 1 ∧ D8 o' ∧ ∃ i' : Nat, IntKind.wrap .i64 ((i : Int) + 1) = i' ∧ i' ≤ N + 1 ∧ ∀ j x y, j < i' → lp[j]? = some x → lq[j]? = some y → o'[j]? = some (g x y)) ∧ (((N + 1 : Nat) : Int) - IntKind.wrap .i64 ((i : Int) + 1)).toNat < (((N + 1 : Nat) : Int) - (i : Int)).toNat := by
      intro w' C5
      refine ⟨⟨_, C5, by simp [hl], hd.set _ (by rw [hZ]; omega) (by rw [hZ]; omega), i + 1, ?_, by omega, ?_⟩, ?_⟩
      · rw [wrapI_in (by omega)]; simp
      · intro j x' y' hj hx' hy'
        by_cases hji : j = i
        · subst hji
          rw [hp] at hx'; rw [hq] at hy'
          simp only [Option.some.injEq] at hx' hy'
          subst hx' hy'
          rw [List.getElem?_set_self (by omega)]
        · rw [List.getElem?_set_ne (by omega)]
          exact hv1 j x' y' (by omega) hx' hy'
      · rw [wrapI_in (by omega)]; omega
    rcases O with ⟨rfl, rfl, rfl⟩ | ⟨rfl, rfl, rfl⟩ | ⟨rfl, rfl, rfl⟩
    · refine ok_tB rfl ?_
      refine fin fun w' C5 => ok_ret.2 (rest w' C5)
    · refine ok_fB rfl ?_
      refine ok_assoc (ok_tB rfl ?_)
      refine fin fun w' C5 => ok_retB (ok_ret.2 (rest w' C5))
    · refine ok_fB rfl ?_
      refine ok_assoc (ok_fB rfl ?_)
      refine fin fun w' C5 => ok_retB (ok_ret.2 (rest w' C5))
  have hie : i = N + 1 := by omega
  subst hie
  refine ok_false (by simp only [decide_eq_false_iff_not]; omega) ?_
  refine ok_bnd.2 ?_
  have e1 : IntKind.wrap .i64 (((N + 1 : Nat) : Int) - 1) = (N : Int) := by rw [wrapI_in (by omega)]; omega
  rw [e1]
  obtain ⟨t, ht1⟩ := get_some (l := out) (i := N) (by omega)
  refine ok_ixO hb (by omega) (by omega) ?_
  rw [Int.toNat_natCast]
  refine ok_ldO C (i := 0) rfl hb ht1 ?_
  have wt := hd.get ht1
  have hR0 := vl_nonneg (b := 256) (by decide) hd
  have hR1 := vl_lt (b := 256) (by decide) hd
  rw [hl] at hR1
  have hbits : ∀ j, j ≤ 8 * N + 7 → (vl 256 out).toNat.testBit j = f (zb x j) (zb y j) := by
    intro j hj
    obtain ⟨p, hp⟩ := get_some (l := lp) (i := j / 8) (by omega)
    obtain ⟨q, hq⟩ := get_some (l := lq) (i := j / 8) (by omega)
    have ho := hv1 (j / 8) p q (by omega) hp hq
    have h1 := bit8 (k := j % 8) hd ho (by omega)
    have h2 := bit8 (k := j % 8) dp hp (by omega)
    have h3 := bit8 (k := j % 8) dq hq (by omega)
    rw [Nat.div_add_mod] at h1 h2 h3
    have h4 : (vl 256 lp).toNat.testBit j = zb x j := bit8_mod dp vp (by omega)
    have h5 : (vl 256 lq).toNat.testBit j = zb y j := bit8_mod dq vq (by omega)
    have wp := dp.get hp
    have wq := dq.get hq
    obtain ⟨X, rfl⟩ := Int.eq_ofNat_of_zero_le wp.1
    obtain ⟨Y, rfl⟩ := Int.eq_ofNat_of_zero_le wq.1
    obtain ⟨Z, hZ, hZ1, hZb⟩ := O.word X Y (by have h9 := wp.2; omega) (by have h9 := wq.2; omega)
    rw [hZ, Int.toNat_natCast] at h1
    rw [Int.toNat_natCast] at h2 h3
    rw [h1, hZb, ← h2, ← h3, h4, h5]
  have eP : 256 ^ (N + 1) = 2 ^ (8 * N + 7 + 1) := by
    rw [show 8 * N + 7 + 1 = 8 * (N + 1) by omega, Nat.pow_mul]
  have eN : ∀ n, (db n).length ≤ N → n < 2 ^ (8 * N + 7) := by
    intro n hn
    have h1 := lt_dgs h256 n
    have h2 : 256 ^ (dgs 256 n).length ≤ 256 ^ N := Nat.pow_le_pow_right (by decide) hn
    have h3 : 256 ^ N = 2 ^ (8 * N) := by rw [Nat.pow_mul]
    have h4 : 2 ^ (8 * N) ≤ 2 ^ (8 * N + 7) := Nat.pow_le_pow_right (by decide) (by omega)
    omega
  obtain ⟨R, hRe⟩ := Int.eq_ofNat_of_zero_le hR0
  rw [hRe] at hR1
  have hRlt : R < 2 ^ (8 * N + 7 + 1) := by
    rw [← eP]; exact_mod_cast hR1
  rw [hRe, Int.toNat_natCast] at hbits
  have rng : ∀ z : Int, (db z.natAbs).length ≤ N → -(2 ^ (8 * N + 7) : Int) ≤ z ∧ z < 2 ^ (8 * N + 7) := by
    intro z hz
    have := range_sv (s := decide (z < 0)) (eN _ hz)
    have e := sv_lg z
    rw [lg_neg] at e
    rwa [e] at this
  have hbw := bitw_of O.f0 (a := x) (b := y) (M := 8 * N + 7) (rng x hNa) (rng y hNc) hRlt hbits
  rw [logZ_eq hbw]
  have htop : decide (t < 128) = !R.testBit (8 * N + 7) := by
    have h1 := bit8 (k := 7) hd ht1 (by omega)
    rw [hRe, Int.toNat_natCast] at h1
    rw [h1]
    obtain ⟨T, rfl⟩ := Int.eq_ofNat_of_zero_le wt.1
    have hT : (T : Int) < 256 := wt.2
    rw [Int.toNat_natCast, Nat.testBit_eq_decide_div_mod_eq, ← decide_not, decide_eq_decide]
    omega
  rw [htop]
  by_cases hneg : R.testBit (8 * N + 7) = true
  · rw [if_pos hneg]
    refine ok_false (by rw [hneg]; rfl) ?_
    have hRpos : R ≠ 0 := by rintro rfl; simp at hneg
    refine ok_loop (fun (q : Int) w' => ∃ o, Cx No wb w' [.own v (nums .u8 o), .own Q (nums .u8 lq), .own P (nums .u8 lp), .cells b3 [.bool false, .string (ByteArray.mk #[])]] ∧ o.length = N + 1 ∧ D8 o ∧ ∃ i : Nat, q = i ∧ i ≤ N + 1 ∧ vl 256 (o.take i) = 256 ^ i - 1 - vl 256 (out.take i) ∧ ∀ k, i ≤ k → o[k]? = out[k]?)
      (fun q _ => ((N + 1 : Nat) - q).toNat) ?_ _ _ ⟨out, C, hl, hd, 0, rfl, Nat.zero_le _, by simp [vl], fun _ _ => rfl⟩
    clear C
    rintro q w ⟨o, C, hlo, hdo, i, rfl, hi, hvo, hso⟩
    by_cases hlt : i < N + 1
    · refine ok_true (by simp only [decide_eq_true_eq]; omega) ?_
      obtain ⟨d, hdx⟩ := get_some (l := out) (i := i) (by omega)
      have hod : o[i]? = some d := (hso i (Nat.le_refl _)).trans hdx
      have wd := hd.get hdx
      have wd0 := wd.1; have wd1 := wd.2
      refine ok_ixO hb (by omega) (by omega) ?_
      rw [Int.toNat_natCast]
      refine ok_ldO C (i := 0) rfl hb hod ?_
      refine ok_ixO hb (by omega) (by omega) ?_
      rw [Int.toNat_natCast, wrap8_in (n := 255 - d) (by omega)]
      refine ok_wrO C (i := 0) rfl hb (by omega) fun w5 C5 => ok_ret.2 ⟨⟨_, C5, by simp [hlo], hdo.set _ (by omega) (by omega), i + 1, ?_, by omega, ?_, ?_⟩, ?_⟩
      · rw [wrapI_in (by omega)]; simp
      · rw [vl_take_set (by omega), hvo, vl_take_succ hdx, Int.pow_succ]; grind
      · intro k hk
        rw [List.getElem?_set_ne (by omega)]
        exact hso k (by omega)
      · rw [wrapI_in (by omega)]; omega
    have hie : i = N + 1 := by omega
    subst hie
    refine ok_false (by simp only [decide_eq_false_iff_not]; omega) ?_
    rw [List.take_of_length_le (by omega), List.take_of_length_le (by omega), hRe] at hvo
    refine ok_bnd.2 ?_
    refine ok_bnd.2 (ok_mono (rtrim_own (C.ret (i := 0) (xs := nums .u8 o) rfl) hdo) ?_)
    rintro r w5 ⟨rfl, hr, _, hra⟩
    have eZ : v8 o = (256 ^ (N + 1) - 1 - (R : Int)).toNat := by unfold v8; rw [hvo]
    have hP0 : (R : Int) < 256 ^ (N + 1) := hR1
    replace C := C.recast (i := 0) (new := .own r (nums .u8 (db (v8 o)))) rfl (own_lower (show Own wb.heap.size w5 r (nums .u8 (db (v8 o))) from hr) (Nat.zero_le _)) (by simp [It.at_, hra])
    have hdl : (db (v8 o)).length ≤ 1000000 := by
      have h1 := v8_lt hdo
      rw [hlo] at h1
      have h2 : (db (v8 o)).length ≤ N + 1 := dgs_length h256 h1
      omega
    refine ok_bnd.2 (ok_buildL1 slt61 _ rfl ?_)
    replace C := C.buildN (e := 5) (vs := nums .u8 [(1 : Int)]) 1 rfl (by decide)
    refine ok_callL C (plus_spec (y := ⟨some ⟨w5.heap.size, 0, none⟩, 1, 1⟩) (a := db (v8 o)) (c := [(1 : Int)]) (C.arr (i := 1) rfl) (C.arr (i := 0) (xs := nums .u8 [(1 : Int)]) rfl) (dg_dgs h256 _) (Dg.cons Dg.nil (by decide) (by decide)) hdl (by decide)) (fun r w' h => h.1) ?_
    rintro r2 w6 ⟨hB, hr2⟩ _
    have e2 : v8 (db (v8 o)) + v8 [(1 : Int)] = (256 ^ (N + 1) - (R : Int)).toNat := by
      rw [v8_db, eZ]
      show _ + 1 = _
      omega
    rw [e2] at hr2
    replace C := C.addOwn hB hr2
    refine ok_callL C (made_spec (l := db (256 ^ (N + 1) - (R : Int)).toNat) (C.arr (i := 0) rfl) (dg_dgs h256 _) true) (fun r w' h => h.1) ?_
    rintro z w7 ⟨_, hz⟩ C
    have e5 : sv true (256 ^ (N + 1) - (R : Int)).toNat = (R : Int) - 2 ^ (8 * N + 7 + 1) := by
      have h9 : (256 : Int) ^ (N + 1) = 2 ^ (8 * N + 7 + 1) := by
        have := congrArg (fun n : Nat => (n : Int)) eP
        simpa using this
      rw [← h9]
      show -((((256 ^ (N + 1) - (R : Int)).toNat : Nat)) : Int) = _
      omega
    rw [v8_db, e5] at hz
    subst hz
    repeat first
      | with_reducible refine ok_assoc ?_
      | with_reducible refine ok_retB ?_
      | (with_reducible refine ah_newC ?_; refine ok_newL C fun bq w C => ?_)
      | (with_reducible refine ah_ord ?_; refine ok_ordL C fun oq w C => ?_)
      | (with_reducible refine ah_draw ?_; refine ok_drawL C fun w C => ?_)
      | (with_reducible refine ah_ldA ?_; first | refine w_ldA1 C ?_ | refine w_ldA2 C ?_)
      | (with_reducible refine ah_ldA3 ?_; refine w_ldA3 C ?_)
      | (with_reducible refine ah_ldA4 ?_; refine w_ldA4 C ?_)
      | (with_reducible refine ah_chA ?_; first | refine w_chA1 C ?_ | refine w_chA2 C ?_)
      | (with_reducible refine ah_chA3 ?_; refine w_chA3 C ?_)
      | (with_reducible refine ah_wrA ?_; refine w_wrA1 C fun w C => ?_)
    exact ok_ret.2 (ok_ret.2 (ok_ret.2 ⟨C.below, rfl⟩))
  · rw [if_neg hneg]
    rw [Bool.not_eq_true] at hneg
    refine ok_true (by rw [hneg]; rfl) ?_
    refine ok_callL C (made_spec (C.arr (i := 0) (xs := nums .u8 out) rfl) hd false) (fun r w' h => h.1) ?_
    rintro z w3 ⟨_, hz⟩ C
    rw [v8, hRe, Int.toNat_natCast] at hz
    subst hz
    repeat first
      | with_reducible refine ok_assoc ?_
      | with_reducible refine ok_retB ?_
      | (with_reducible refine ah_newC ?_; refine ok_newL C fun bq w C => ?_)
      | (with_reducible refine ah_ord ?_; refine ok_ordL C fun oq w C => ?_)
      | (with_reducible refine ah_draw ?_; refine ok_drawL C fun w C => ?_)
      | (with_reducible refine ah_ldA ?_; first | refine w_ldA1 C ?_ | refine w_ldA2 C ?_)
      | (with_reducible refine ah_ldA3 ?_; refine w_ldA3 C ?_)
      | (with_reducible refine ah_ldA4 ?_; refine w_ldA4 C ?_)
      | (with_reducible refine ah_chA ?_; first | refine w_chA1 C ?_ | refine w_chA2 C ?_)
      | (with_reducible refine ah_chA3 ?_; refine w_chA3 C ?_)
      | (with_reducible refine ah_wrA ?_; refine w_wrA1 C fun w C => ?_)
    exact ok_ret.2 (ok_ret.2 ⟨C.below, rfl⟩)
end Go.Proofs.Ytoekfjgikicclaa
