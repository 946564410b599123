/-
  Part of the proof: B27
-/
import Derived.Test.YtpgalllceejpnaaB26
set_option linter.unusedSimpArgs false
set_option linter.unusedVariables false
namespace Go.Proofs.Ytpgalllceejpnaa
set_option linter.unusedVariables false
open Go.Sh Go.RowKit
set_option maxRecDepth 100000
/-! ### The reference: rules; what was lent -/
theorem bit_one {a : Int} (h : 0 ≤ a ∧ a < 4294967296) (n : Nat) (hn : n ≤ 31) : bAnd .u32 (shrI .u32 a n) 1 = if (ib a).getLsbD n then 1 else 0 := by
  refine int_ext (by rw [bAnd_bi]; exact bi_rng _) (by split <;> omega) fun k hk => ?_
  rw [bAnd_bi, ib_bi, BitVec.getLsbD_and, shr_lsb h n k (by omega)]
  by_cases hk0 : k = 0
  · subst hk0
    rw [Nat.add_zero]
    cases (ib a).getLsbD n <;> decide
  · have : (ib 1).getLsbD k = false := by
      rw [show (1 : Int) = ((1 : Nat) : Int) from rfl, ib_lsb (Int.natCast_nonneg _) k hk, Int.toNat_natCast]
      exact Nat.testBit_lt_two_pow (Nat.one_lt_two_pow hk0)
    rw [this, Bool.and_false]
    cases (ib a).getLsbD n
    · simp
    · simp only [if_true]; exact this.symm
theorem rule_bits {r : Int} (hr : 0 ≤ r ∧ r ≤ 15) (s d : Bool) : (ib r).getLsbD (3 - 2 * s.toNat - d.toNat) = ruleB r s d := by
  have hr : r = 0 ∨ r = 1 ∨ r = 2 ∨ r = 3 ∨ r = 4 ∨ r = 5 ∨ r = 6 ∨ r = 7 ∨ r = 8 ∨ r = 9 ∨ r = 10 ∨ r = 11 ∨ r = 12 ∨ r = 13 ∨ r = 14 ∨ r = 15 := by omega
  rcases hr with h | h | h | h | h | h | h | h | h | h | h | h | h | h | h | h <;> subst h <;> cases s <;> cases d <;> decide
theorem refrule_spec (r s d : Int) (w : World) (hs : 0 ≤ s ∧ s < 4294967296) (hd : 0 ≤ d ∧ d < 4294967296) : Ok (f21_palaverref11_Rule r s d) w fun q w' => q = (if 0 ≤ r ∧ r ≤ 15 then (ruleF r s d, 0) else (0, 111)) ∧ w' = w := by
  unfold f21_palaverref11_Rule
  by_cases hr : 0 ≤ r ∧ r ≤ 15
  rotate_left
  · rw [if_neg hr]
    exact ok_true (by simp only [Bool.cond_true_left, Bool.or_eq_true, decide_eq_true_eq]; omega) (ok_ret.2 ⟨rfl, rfl⟩)
  rw [if_pos hr]
  refine ok_false (by simp only [Bool.cond_true_left, Bool.or_eq_false_iff, decide_eq_false_iff_not]; omega) ?_
  have hR := rule_rng hr hs hd
  obtain ⟨R, hRe⟩ := Int.eq_ofNat_of_zero_le hR.1
  refine ok_loop (fun (q : Int × Int) w' => w' = w ∧ -1 ≤ q.2 ∧ q.2 ≤ 31 ∧ q.1 = ((R / 2 ^ (q.2 + 1).toNat : Nat) : Int)) (fun q _ => (q.2 + 1).toNat) ?_ _ _ ⟨rfl, by decide, by decide, ?_⟩
  rotate_left
  · show (0 : Int) = _
    rw [Nat.div_eq_of_lt (by show R < 2 ^ 32; omega)]; rfl
  rintro ⟨o, i⟩ w1 ⟨rfl, h0, h1, h2⟩
  simp only at h0 h1 h2 ⊢
  by_cases hi : 0 ≤ i
  rotate_left
  · have : i = -1 := by omega
    subst this
    refine ok_false (by simp) (ok_ret.2 ⟨?_, rfl⟩)
    rw [h2, hRe]
    simp
  obtain ⟨n, rfl⟩ := Int.eq_ofNat_of_zero_le hi
  have hn : n ≤ 31 := by omega
  refine ok_true (by simp) ?_
  have ew : (IntKind.wrap .u64 (n : Int)) = n := by rw [wrapU]; omega
  rw [ew]
  refine ok_bnd.2 (ok_cnt.2 ⟨by omega, ok_bnd.2 (ok_cnt.2 ⟨by omega, ?_⟩)⟩)
  rw [Int.toNat_natCast, bit_one hs n hn, bit_one hd n hn]
  obtain ⟨sb, hsb⟩ : ∃ sb, sb = (ib s).getLsbD n := ⟨_, rfl⟩
  obtain ⟨db, hdb⟩ : ∃ db, db = (ib d).getLsbD n := ⟨_, rfl⟩
  rw [← hsb, ← hdb]
  have ek : IntKind.wrap .u64 (IntKind.wrap .u32 (IntKind.wrap .u32 (3 - IntKind.wrap .u32 (2 * (if sb = true then (1 : Int) else 0))) - (if db = true then (1 : Int) else 0))) = ((3 - 2 * sb.toNat - db.toNat : Nat) : Int) := by
    cases sb <;> cases db <;> decide
  rw [ek]
  refine ok_bnd.2 (ok_cnt.2 ⟨Int.natCast_nonneg _, ok_ret.2 ?_⟩)
  rw [Int.toNat_natCast, show IntKind.wrap .u32 r = r by rw [wrapU32]; omega, bit_one (by omega) _ (by omega), rule_bits hr]
  have hbit : ruleB r sb db = R.testBit n := by
    have := rule_lsb hr (ib s) (ib d) n (by omega)
    rw [← ib_rule hr, hRe, ib_lsb (Int.natCast_nonneg _) n (by omega), Int.toNat_natCast, ← hsb, ← hdb] at this
    exact this.symm
  rw [hbit, wrapI_in (n := (n : Int) - 1) (by omega)]
  have hRlt : R < 4294967296 := by omega
  have hdiv : R / 2 ^ n = R / 2 ^ (n + 1) * 2 + (if R.testBit n then 1 else 0) := by
    have e1 : R / 2 ^ (n + 1) = R / 2 ^ n / 2 := by rw [Nat.pow_succ, Nat.div_div_eq_div_mul]
    rw [e1]
    have e2 : R.testBit n = decide (R / 2 ^ n % 2 = 1) := by rw [Nat.testBit_eq_decide_div_mod_eq]
    rw [e2]
    by_cases h : R / 2 ^ n % 2 = 1 <;> simp [h] <;> omega
  have hle : R / 2 ^ n ≤ R := Nat.div_le_self _ _
  refine ⟨⟨rfl, by show -1 ≤ (n : Int) - 1; omega, by show (n : Int) - 1 ≤ 31; omega, ?_⟩, by show ((n : Int) - 1 + 1).toNat < _; omega⟩
  show IntKind.wrap .u32 (IntKind.wrap .u32 (o * 2) + _) = ((R / 2 ^ ((n : Int) - 1 + 1).toNat : Nat) : Int)
  rw [show ((n : Int) - 1 + 1).toNat = n by omega, h2, show ((n : Int) + 1).toNat = n + 1 by omega, wrapU32, wrapU32]
  generalize R / 2 ^ (n + 1) = X at hdiv ⊢
  generalize R / 2 ^ n = Y at hdiv hle ⊢
  cases hh : R.testBit n <;> simp [hh] at hdiv ⊢ <;> omega
/-- Cells as a slice of their own. -/
theorem arr_cells {w : World} {b : Nat} {c : List Value} {fr : Bool} (h : blk w b = some c.toArray) (n : Nat) (hn : n ≤ c.length) (hm : c.length ≤ maxLen) : Arr w.heap.size w ⟨some ⟨b, 0, none⟩, n, c.length⟩ (c.take n) :=
  ⟨by simp; omega, hn, hm, .inr ⟨b, 0, _, rfl, blk_lt h, h, fun i hi => by
    simp only [List.length_take] at hi
    rw [Nat.zero_add, List.getElem?_toArray, List.getElem?_take_of_lt (by omega)]⟩⟩
abbrev lentC (l : List Int) : List Value := wds l ++ [Value.int .u32 8999229, Value.int .u32 8999228]
abbrev lentS (b : Nat) (l : List Int) : Sl := ⟨some ⟨b, 0, none⟩, l.length, l.length + 2⟩
theorem arr_lent {w : World} {b : Nat} {l : List Int} (h : blk w b = some (lentC l).toArray) (hm : l.length + 2 ≤ maxLen) : Arr w.heap.size w (lentS b l) (wds l) := by
  have := arr_cells (fr := true) h l.length (by simp) (by simpa using hm)
  simpa using this
theorem whole_spec (b : Nat) (l : List Int) (s : Sl) (w : World) (h : blk w b = some (lentC l).toArray) (hm : l.length ≤ 4194304) {B : Nat} (H : Arr B w s (wds l)) : Ok (f22_palaverref00_WholeBits (lentS b l) s) w fun r w' => r = true ∧ Below w.heap.size w w' := by
  unfold f22_palaverref00_WholeBits
  have e2 : IntKind.wrap .i64 ((l.length : Int) + 2) = (l.length : Int) + 2 := wrapI_in (by omega)
  have e1 : IntKind.wrap .i64 ((l.length : Int) + 1) = (l.length : Int) + 1 := wrapI_in (by omega)
  simp only [e1, e2]
  refine ok_false (by simp) ?_
  refine ok_bnd.2 (ok_slc (by simp) (by simp; omega) (by simp) ?_)
  have hcut : cut (lentS b l) ((none : Option Int).getD 0).toNat ((some ((l.length : Int) + 2)).getD (lentS b l).len).toNat = ⟨some ⟨b, 0, none⟩, l.length + 2, l.length + 2⟩ := by
    simp only [cut, Option.getD_none, Option.getD_some]
    rw [if_neg (by simp)]
    simp only [Option.map_some, addr_add]
    congr 1
  rw [hcut]
  refine ok_bnd.2 (ok_mono (same_bits _ _ l l w (arr_lent h (by simp only [maxLen]; omega)) (arr_size H)) ?_)
  rintro r w1 ⟨rfl, hB⟩
  have h1 := (Go.Sh.Below.blk hB (blk_lt h)).trans h
  refine ok_and true (fun _ => ?_) ?_
  · refine ok_bnd.2 (ok_ix (s := ⟨some ⟨b, 0, none⟩, l.length + 2, l.length + 2⟩) rfl (by omega) (by simp only; omega) (ok_bnd.2 (ok_ldA (x := 8999229) h1 (rdv_int ?_) (ok_ret.2 ⟨rfl, rfl⟩))))
    rw [Nat.mul_one, Nat.zero_add, Int.toNat_natCast, List.getElem?_toArray, List.getElem?_append_right (by simp)]
    simp
  refine ok_and true (fun _ => ?_) ?_
  · refine ok_bnd.2 (ok_ix (s := ⟨some ⟨b, 0, none⟩, l.length + 2, l.length + 2⟩) rfl (by omega) (by simp only; omega) (ok_bnd.2 (ok_ldA (x := 8999228) h1 (rdv_int ?_) (ok_ret.2 ⟨rfl, rfl⟩))))
    rw [Nat.mul_one, Nat.zero_add, show ((l.length : Int) + 1).toNat = l.length + 1 by omega, List.getElem?_toArray, List.getElem?_append_right (by simp)]
    simp
  exact ok_ret.2 ⟨by simp, hB⟩
end Go.Proofs.Ytpgalllceejpnaa
