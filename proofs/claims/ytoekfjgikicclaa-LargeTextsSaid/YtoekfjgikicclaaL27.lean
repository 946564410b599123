/-
  Part of the proof: L27. It states what the functions do; no further condition.
-/
import Derived.Test.YtoekfjgikicclaaL26
set_option linter.unusedVariables false
set_option linter.unusedSimpArgs false
namespace Go.Proofs.Ytoekfjgikicclaa
set_option linter.unusedVariables false
open Go.Sh Go.RowKit
set_option maxRecDepth 100000
/-! ### And, Or, Xor -/
theorem bits_spec {B : Nat} {wb : World} {x : Sl} {n k : Nat} (neg : Bool) (hx : NN B wb x n) (hk : (dw n).length ≤ k) (hk2 : k ≤ 1000000) :
    Ok (f88_largeint_number_bits (x, neg) (k : Int)) wb fun r w' => ∃ l, Cx No wb w' [.own r (nums .u32 l)] ∧ DW l ∧ l.length = k ∧ vl (BW : Int) l = sv neg n % (BW : Int) ^ k := by
  unfold f88_largeint_number_bits
  dsimp only
  have C := Cx.nil No wb
  repeat first
    | with_reducible refine ok_assoc ?_
    | with_reducible refine ok_retB ?_
    | (with_reducible refine ah_newC ?_; refine ok_newL C fun bq w C => ?_)
    | (with_reducible refine ah_ord ?_; refine ok_ordL C fun oq w C => ?_)
    | (with_reducible refine ah_draw ?_; refine ok_drawL C fun w C => ?_)
    | (with_reducible refine ah_ldA ?_; first | refine w_ldA1 C ?_ | refine w_ldA2 C ?_)
    | (with_reducible refine ah_ldA3 ?_; refine w_ldA3 C ?_)
    | (with_reducible refine ah_ldA4 ?_; refine w_ldA4 C ?_)
    | (with_reducible refine ah_ldN ?_; first | refine w_ldN1 C ?_ | refine w_ldN2 C ?_)
    | (with_reducible refine ah_ldN3 ?_; refine w_ldN3 C ?_)
    | (with_reducible refine ah_ldN4 ?_; refine w_ldN4 C ?_)
    | (with_reducible refine ah_chA ?_; first | refine w_chA1 C ?_ | refine w_chA2 C ?_)
    | (with_reducible refine ah_chA3 ?_; refine w_chA3 C ?_)
    | (with_reducible refine ah_chN ?_; first | refine w_chN1 C ?_ | refine w_chN2 C ?_)
    | (with_reducible refine ah_chN4 ?_; refine w_chN4 C ?_)
    | (with_reducible refine ah_wrA ?_; refine w_wrA1 C fun w C => ?_)
    | (with_reducible refine ah_wrN ?_; refine w_wrN1 C fun w C => ?_)
    | (with_reducible refine ah_wrN2 ?_; refine w_wrN2 C fun w C => ?_)
    | (with_reducible refine ah_wrN3 ?_; refine w_wrN3 C fun w C => ?_)
  refine ok_makeN slt50 C (by omega) (by omega) (by omega) fun v w hv hb C => ?_
  rw [Int.toNat_natCast] at C hv
  repeat first
    | with_reducible refine ok_assoc ?_
    | with_reducible refine ok_retB ?_
    | (with_reducible refine ah_newC ?_; refine ok_newL C fun bq w C => ?_)
    | (with_reducible refine ah_ord ?_; refine ok_ordL C fun oq w C => ?_)
    | (with_reducible refine ah_draw ?_; refine ok_drawL C fun w C => ?_)
    | (with_reducible refine ah_ldA ?_; first | refine w_ldA1 C ?_ | refine w_ldA2 C ?_)
    | (with_reducible refine ah_ldA3 ?_; refine w_ldA3 C ?_)
    | (with_reducible refine ah_ldA4 ?_; refine w_ldA4 C ?_)
    | (with_reducible refine ah_ldN ?_; first | refine w_ldN1 C ?_ | refine w_ldN2 C ?_)
    | (with_reducible refine ah_ldN3 ?_; refine w_ldN3 C ?_)
    | (with_reducible refine ah_ldN4 ?_; refine w_ldN4 C ?_)
    | (with_reducible refine ah_chA ?_; first | refine w_chA1 C ?_ | refine w_chA2 C ?_)
    | (with_reducible refine ah_chA3 ?_; refine w_chA3 C ?_)
    | (with_reducible refine ah_chN ?_; first | refine w_chN1 C ?_ | refine w_chN2 C ?_)
    | (with_reducible refine ah_chN4 ?_; refine w_chN4 C ?_)
    | (with_reducible refine ah_wrA ?_; refine w_wrA1 C fun w C => ?_)
    | (with_reducible refine ah_wrN ?_; refine w_wrN1 C fun w C => ?_)
    | (with_reducible refine ah_wrN2 ?_; refine w_wrN2 C fun w C => ?_)
    | (with_reducible refine ah_wrN3 ?_; refine w_wrN3 C fun w C => ?_)
  refine ok_copyO slt50 C (i := 0) rfl (C.old hx.size) (by simpa using hk) fun w C => ?_
  repeat first
    | with_reducible refine ok_assoc ?_
    | with_reducible refine ok_retB ?_
    | (with_reducible refine ah_newC ?_; refine ok_newL C fun bq w C => ?_)
    | (with_reducible refine ah_ord ?_; refine ok_ordL C fun oq w C => ?_)
    | (with_reducible refine ah_draw ?_; refine ok_drawL C fun w C => ?_)
    | (with_reducible refine ah_ldA ?_; first | refine w_ldA1 C ?_ | refine w_ldA2 C ?_)
    | (with_reducible refine ah_ldA3 ?_; refine w_ldA3 C ?_)
    | (with_reducible refine ah_ldA4 ?_; refine w_ldA4 C ?_)
    | (with_reducible refine ah_ldN ?_; first | refine w_ldN1 C ?_ | refine w_ldN2 C ?_)
    | (with_reducible refine ah_ldN3 ?_; refine w_ldN3 C ?_)
    | (with_reducible refine ah_ldN4 ?_; refine w_ldN4 C ?_)
    | (with_reducible refine ah_chA ?_; first | refine w_chA1 C ?_ | refine w_chA2 C ?_)
    | (with_reducible refine ah_chA3 ?_; refine w_chA3 C ?_)
    | (with_reducible refine ah_chN ?_; first | refine w_chN1 C ?_ | refine w_chN2 C ?_)
    | (with_reducible refine ah_chN4 ?_; refine w_chN4 C ?_)
    | (with_reducible refine ah_wrA ?_; refine w_wrA1 C fun w C => ?_)
    | (with_reducible refine ah_wrN ?_; refine w_wrN1 C fun w C => ?_)
    | (with_reducible refine ah_wrN2 ?_; refine w_wrN2 C fun w C => ?_)
    | (with_reducible refine ah_wrN3 ?_; refine w_wrN3 C fun w C => ?_)
  have e1 : vl (BW : Int) (dw n ++ (List.replicate k 0).drop (dw n).length) = n := by
    rw [List.drop_replicate, vl_append, vl_zeros, Int.mul_zero, Int.add_zero]; exact vw_dw n
  have e2 : DW (dw n ++ (List.replicate k 0).drop (dw n).length) := (dw_dg n).append (by rw [List.drop_replicate]; exact Dg.zeros (by decide) _)
  have e3 : (dw n ++ (List.replicate k 0).drop (dw n).length).length = k := by simp; omega
  generalize dw n ++ (List.replicate k 0).drop (dw n).length = l at *
  cases neg
  · refine ok_fB rfl ?_
    repeat first
      | with_reducible refine ok_assoc ?_
      | with_reducible refine ok_retB ?_
      | (with_reducible refine ah_newC ?_; refine ok_newL C fun bq w C => ?_)
      | (with_reducible refine ah_ord ?_; refine ok_ordL C fun oq w C => ?_)
      | (with_reducible refine ah_draw ?_; refine ok_drawL C fun w C => ?_)
      | (with_reducible refine ah_ldA ?_; first | refine w_ldA1 C ?_ | refine w_ldA2 C ?_)
      | (with_reducible refine ah_ldA3 ?_; refine w_ldA3 C ?_)
      | (with_reducible refine ah_ldA4 ?_; refine w_ldA4 C ?_)
      | (with_reducible refine ah_ldN ?_; first | refine w_ldN1 C ?_ | refine w_ldN2 C ?_)
      | (with_reducible refine ah_ldN3 ?_; refine w_ldN3 C ?_)
      | (with_reducible refine ah_ldN4 ?_; refine w_ldN4 C ?_)
      | (with_reducible refine ah_chA ?_; first | refine w_chA1 C ?_ | refine w_chA2 C ?_)
      | (with_reducible refine ah_chA3 ?_; refine w_chA3 C ?_)
      | (with_reducible refine ah_chN ?_; first | refine w_chN1 C ?_ | refine w_chN2 C ?_)
      | (with_reducible refine ah_chN4 ?_; refine w_chN4 C ?_)
      | (with_reducible refine ah_wrA ?_; refine w_wrA1 C fun w C => ?_)
      | (with_reducible refine ah_wrN ?_; refine w_wrN1 C fun w C => ?_)
      | (with_reducible refine ah_wrN2 ?_; refine w_wrN2 C fun w C => ?_)
      | (with_reducible refine ah_wrN3 ?_; refine w_wrN3 C fun w C => ?_)
    refine ok_ret.2 ⟨l, C.pick [0] (by simp), e2, e3, ?_⟩
    rw [e1]
    have h1 := vl_lt (b := (BW : Int)) (by decide) e2
    rw [e1, e3] at h1
    exact (Int.emod_eq_of_lt (by omega) h1).symm
  · refine ok_tB rfl ?_
    refine ok_assoc (ok_bnd.2 (ok_mono (turn_spec (C.ret (i := 0) (xs := nums .u32 l) rfl) e2 (by omega)) ?_))
    rintro _ w2 ⟨hk, o, ho, hd, hl, hvo⟩
    have C2 := C.turnOwn (i := 0) (ys := nums .u32 o) rfl hk (own_lower ho (Nat.zero_le _))
    refine ok_retB (ok_ret.2 ⟨o, C2.pick [0] (by simp), hd, by omega, ?_⟩)
    rw [hvo, e1, e3]
    show _ = (-(n : Int)) % _
    rw [Int.sub_eq_add_neg, Int.add_emod_left]
theorem digit_of_vl {l : List Int} {i : Nat} {d : Int} (hd : DW l) (h : l[i]? = some d) : (vl (BW : Int) l).toNat / BW ^ i % BW = d.toNat := by
  have hi : i < l.length := by
    rcases Nat.lt_or_ge i l.length with h' | h'
    · exact h'
    · rw [List.getElem?_eq_none h'] at h; cases h
  have e := vl_drop_take (b := (BW : Int)) i (Nat.le_of_lt hi)
  rw [List.getElem?_eq_getElem hi, Option.some.injEq] at h
  rw [List.drop_eq_getElem_cons hi, vl_cons, h] at e
  have h1 := vl_nonneg (b := (BW : Int)) (by decide) (hd.take i)
  have h2 := vl_nonneg (b := (BW : Int)) (by decide) (hd.drop (i + 1))
  have h3 := vl_lt (b := (BW : Int)) (by decide) (hd.take i)
  rw [List.length_take, Nat.min_eq_left (by omega)] at h3
  have hw := hd _ (List.getElem_mem hi)
  rw [h] at hw
  obtain ⟨lo, hlo⟩ := Int.eq_ofNat_of_zero_le h1
  obtain ⟨hi', hhi⟩ := Int.eq_ofNat_of_zero_le h2
  obtain ⟨D, rfl⟩ := Int.eq_ofNat_of_zero_le hw.1
  rw [hlo, hhi] at e
  rw [hlo] at h3
  have e2 : vl (BW : Int) l = ((lo + BW ^ i * (D + BW * hi') : Nat) : Int) := by
    rw [e, Int.natCast_add, Int.natCast_mul, Int.natCast_pow, Int.natCast_add, Int.natCast_mul]
  have h4 : lo < BW ^ i := by exact_mod_cast h3
  have h5 : D < BW := by exact_mod_cast hw.2
  rw [e2, Int.toNat_natCast, Int.toNat_natCast, Nat.add_mul_div_left _ _ (Nat.pow_pos (by decide)), Nat.div_eq_of_lt h4, Nat.zero_add, Nat.add_mul_mod_self_left, Nat.mod_eq_of_lt h5]
theorem bit_of_vl {l : List Int} {i k : Nat} {d : Int} (hd : DW l) (h : l[i]? = some d) (hk : k < 32) : (vl (BW : Int) l).toNat.testBit (32 * i + k) = d.toNat.testBit k := by
  rw [← digit_of_vl hd h]
  have e : BW ^ i = 2 ^ (32 * i) := by rw [Nat.pow_mul]
  have e2 : BW = 2 ^ 32 := rfl
  rw [e]
  rw [show ∀ a, a % BW = a % 2 ^ 32 from fun _ => rfl, Nat.testBit_mod_two_pow, Nat.testBit_div_two_pow]
  simp [hk, Nat.add_comm]
theorem u32_and (x y : Nat) (hx : x < 4294967296) (hy : y < 4294967296) : bAnd .u32 x y = ((x &&& y : Nat) : Int) := by
  rw [bAnd_bi]
  unfold bi ib
  rw [BitVec.toNat_and, BitVec.toNat_ofInt, BitVec.toNat_ofInt]
  rw [show ((x : Int) % ((2 ^ 32 : Nat) : Int)).toNat = x by omega, show ((y : Int) % ((2 ^ 32 : Nat) : Int)).toNat = y by omega]
theorem u32_xor (x y : Nat) (hx : x < 4294967296) (hy : y < 4294967296) : bXor .u32 x y = ((x ^^^ y : Nat) : Int) := by
  rw [bXor_bi]
  unfold bi ib
  rw [BitVec.toNat_xor, BitVec.toNat_ofInt, BitVec.toNat_ofInt]
  rw [show ((x : Int) % ((2 ^ 32 : Nat) : Int)).toNat = x by omega, show ((y : Int) % ((2 ^ 32 : Nat) : Int)).toNat = y by omega]
/-- A function value that puts words together bit by bit. -/
structure Wop (v : Value) (f : Bool → Bool → Bool) (g : Int → Int → Int) : Prop where
  f0 : f false false = false
  call : ∀ a b, callV Cf65_largeint_logic (.int .u32) v [⟨(.int .u32), a⟩, ⟨(.int .u32), b⟩] = ret (g a b)
  word : ∀ x y : Nat, x < 4294967296 → y < 4294967296 → ∃ z : Nat, g x y = z ∧ z < 4294967296 ∧ ∀ i, z.testBit i = f (x.testBit i) (y.testBit i)
theorem wop_and : Wop (Value.func (.func 66) #[] #[]) and Gf66_largeint_And_1 where
  f0 := rfl
  call _ _ := rfl
  word x y hx hy := ⟨x &&& y, u32_and x y hx hy, Nat.and_lt_two_pow (n := 32) x hy, fun i => Nat.testBit_and ..⟩
theorem wop_or : Wop (Value.func (.func 68) #[] #[]) or Gf68_largeint_Or_1 where
  f0 := rfl
  call _ _ := rfl
  word x y hx hy := ⟨x ||| y, bOr32_nat x y hx hy, Nat.or_lt_two_pow (n := 32) hx hy, fun i => Nat.testBit_or ..⟩
theorem wop_xor : Wop (Value.func (.func 69) #[] #[]) xor Gf69_largeint_Xor_1 where
  f0 := rfl
  call _ _ := rfl
  word x y hx hy := ⟨x ^^^ y, u32_xor x y hx hy, Nat.xor_lt_two_pow (n := 32) hx hy, fun i => Nat.testBit_xor ..⟩
noncomputable def logR (f : Bool → Bool → Bool) (a b : Lg) : Lg × Int := if ck2 a b = 0 then toldZ (logZ f (iv a) (iv b)) else (zr, ck2 a b)
theorem range_sv {s : Bool} {n M : Nat} (h : n < 2 ^ M) : -(2 ^ M : Int) ≤ sv s n ∧ sv s n < 2 ^ M := by
  have : (n : Int) < 2 ^ M := by exact_mod_cast h
  unfold sv; split <;> omega
theorem bit_mod {l : List Int} {z : Int} {N j : Nat} (hd : DW l) (h : vl (BW : Int) l = z % (BW : Int) ^ N) (hj : j < 32 * N) : (vl (BW : Int) l).toNat.testBit j = zb z j := by
  have hn := vl_nonneg (b := (BW : Int)) (by decide) hd
  rw [← zb_nat, Int.toNat_of_nonneg hn, h]
  have : (BW : Int) ^ N = 2 ^ (32 * N) := by rw [Int.pow_mul]; rfl
  rw [this, zb_mod _ _ _ hj]
theorem logic_is {fv : Value} {f : Bool → Bool → Bool} {g : Int → Int → Int} (O : Wop fv f g) (a c : Lg) : Is (f65_largeint_logic a c fv) (logR f a c) := by
  intro wb
  unfold f65_largeint_logic logR
  have C := Cx.nil No wb
  repeat first
    | with_reducible refine ok_assoc ?_
    | with_reducible refine ok_retB ?_
    | (with_reducible refine ah_newC ?_; refine ok_newL C fun bq w C => ?_)
    | (with_reducible refine ah_ord ?_; refine ok_ordL C fun oq w C => ?_)
    | (with_reducible refine ah_draw ?_; refine ok_drawL C fun w C => ?_)
    | (with_reducible refine ah_ldA ?_; first | refine w_ldA1 C ?_ | refine w_ldA2 C ?_)
    | (with_reducible refine ah_ldA3 ?_; refine w_ldA3 C ?_)
    | (with_reducible refine ah_ldA4 ?_; refine w_ldA4 C ?_)
    | (with_reducible refine ah_ldN ?_; first | refine w_ldN1 C ?_ | refine w_ldN2 C ?_)
    | (with_reducible refine ah_ldN3 ?_; refine w_ldN3 C ?_)
    | (with_reducible refine ah_ldN4 ?_; refine w_ldN4 C ?_)
    | (with_reducible refine ah_chA ?_; first | refine w_chA1 C ?_ | refine w_chA2 C ?_)
    | (with_reducible refine ah_chA3 ?_; refine w_chA3 C ?_)
    | (with_reducible refine ah_chN ?_; first | refine w_chN1 C ?_ | refine w_chN2 C ?_)
    | (with_reducible refine ah_chN4 ?_; refine w_chN4 C ?_)
    | (with_reducible refine ah_wrA ?_; refine w_wrA1 C fun w C => ?_)
    | (with_reducible refine ah_wrN ?_; refine w_wrN1 C fun w C => ?_)
    | (with_reducible refine ah_wrN2 ?_; refine w_wrN2 C fun w C => ?_)
    | (with_reducible refine ah_wrN3 ?_; refine w_wrN3 C fun w C => ?_)
  obtain ⟨b3, hb3⟩ : ∃ b3, b3 = bq := ⟨bq, rfl⟩
  subst hb3
  refine ok_bnd.2 (ok_mono (two_spec _ _ _) ?_)
  rintro r w1 H
  by_cases h : ck2 a c = 0
  rotate_left
  · replace C := C.call H.1
    rw [if_neg h]
    repeat first
      | with_reducible refine ok_assoc ?_
      | with_reducible refine ok_retB ?_
      | (with_reducible refine ah_newC ?_; refine ok_newL C fun bq w C => ?_)
      | (with_reducible refine ah_ord ?_; refine ok_ordL C fun oq w C => ?_)
      | (with_reducible refine ah_draw ?_; refine ok_drawL C fun w C => ?_)
      | (with_reducible refine ah_ldA ?_; first | refine w_ldA1 C ?_ | refine w_ldA2 C ?_)
      | (with_reducible refine ah_ldA3 ?_; refine w_ldA3 C ?_)
      | (with_reducible refine ah_ldA4 ?_; refine w_ldA4 C ?_)
      | (with_reducible refine ah_ldN ?_; first | refine w_ldN1 C ?_ | refine w_ldN2 C ?_)
      | (with_reducible refine ah_ldN3 ?_; refine w_ldN3 C ?_)
      | (with_reducible refine ah_ldN4 ?_; refine w_ldN4 C ?_)
      | (with_reducible refine ah_chA ?_; first | refine w_chA1 C ?_ | refine w_chA2 C ?_)
      | (with_reducible refine ah_chA3 ?_; refine w_chA3 C ?_)
      | (with_reducible refine ah_chN ?_; first | refine w_chN1 C ?_ | refine w_chN2 C ?_)
      | (with_reducible refine ah_chN4 ?_; refine w_chN4 C ?_)
      | (with_reducible refine ah_wrA ?_; refine w_wrA1 C fun w C => ?_)
      | (with_reducible refine ah_wrN ?_; refine w_wrN1 C fun w C => ?_)
      | (with_reducible refine ah_wrN2 ?_; refine w_wrN2 C fun w C => ?_)
      | (with_reducible refine ah_wrN3 ?_; refine w_wrN3 C fun w C => ?_)
    refine ok_true (by rw [H.2.1]; simpa using h) ?_
    repeat first
      | with_reducible refine ok_assoc ?_
      | with_reducible refine ok_retB ?_
      | (with_reducible refine ah_newC ?_; refine ok_newL C fun bq w C => ?_)
      | (with_reducible refine ah_ord ?_; refine ok_ordL C fun oq w C => ?_)
      | (with_reducible refine ah_draw ?_; refine ok_drawL C fun w C => ?_)
      | (with_reducible refine ah_ldA ?_; first | refine w_ldA1 C ?_ | refine w_ldA2 C ?_)
      | (with_reducible refine ah_ldA3 ?_; refine w_ldA3 C ?_)
      | (with_reducible refine ah_ldA4 ?_; refine w_ldA4 C ?_)
      | (with_reducible refine ah_ldN ?_; first | refine w_ldN1 C ?_ | refine w_ldN2 C ?_)
      | (with_reducible refine ah_ldN3 ?_; refine w_ldN3 C ?_)
      | (with_reducible refine ah_ldN4 ?_; refine w_ldN4 C ?_)
      | (with_reducible refine ah_chA ?_; first | refine w_chA1 C ?_ | refine w_chA2 C ?_)
      | (with_reducible refine ah_chA3 ?_; refine w_chA3 C ?_)
      | (with_reducible refine ah_chN ?_; first | refine w_chN1 C ?_ | refine w_chN2 C ?_)
      | (with_reducible refine ah_chN4 ?_; refine w_chN4 C ?_)
      | (with_reducible refine ah_wrA ?_; refine w_wrA1 C fun w C => ?_)
      | (with_reducible refine ah_wrN ?_; refine w_wrN1 C fun w C => ?_)
      | (with_reducible refine ah_wrN2 ?_; refine w_wrN2 C fun w C => ?_)
      | (with_reducible refine ah_wrN3 ?_; refine w_wrN3 C fun w C => ?_)
    refine ok_ret.2 ⟨C.below, ?_⟩
    rw [H.2.1]; rfl
  obtain ⟨D, hs, ht, he, hl1, hl2⟩ := two_C C h H
  replace C := D
  rw [if_pos h]
  repeat first
    | with_reducible refine ok_assoc ?_
    | with_reducible refine ok_retB ?_
    | (with_reducible refine ah_newC ?_; refine ok_newL C fun bq w C => ?_)
    | (with_reducible refine ah_ord ?_; refine ok_ordL C fun oq w C => ?_)
    | (with_reducible refine ah_draw ?_; refine ok_drawL C fun w C => ?_)
    | (with_reducible refine ah_ldA ?_; first | refine w_ldA1 C ?_ | refine w_ldA2 C ?_)
    | (with_reducible refine ah_ldA3 ?_; refine w_ldA3 C ?_)
    | (with_reducible refine ah_ldA4 ?_; refine w_ldA4 C ?_)
    | (with_reducible refine ah_ldN ?_; first | refine w_ldN1 C ?_ | refine w_ldN2 C ?_)
    | (with_reducible refine ah_ldN3 ?_; refine w_ldN3 C ?_)
    | (with_reducible refine ah_ldN4 ?_; refine w_ldN4 C ?_)
    | (with_reducible refine ah_chA ?_; first | refine w_chA1 C ?_ | refine w_chA2 C ?_)
    | (with_reducible refine ah_chA3 ?_; refine w_chA3 C ?_)
    | (with_reducible refine ah_chN ?_; first | refine w_chN1 C ?_ | refine w_chN2 C ?_)
    | (with_reducible refine ah_chN4 ?_; refine w_chN4 C ?_)
    | (with_reducible refine ah_wrA ?_; refine w_wrA1 C fun w C => ?_)
    | (with_reducible refine ah_wrN ?_; refine w_wrN1 C fun w C => ?_)
    | (with_reducible refine ah_wrN2 ?_; refine w_wrN2 C fun w C => ?_)
    | (with_reducible refine ah_wrN3 ?_; refine w_wrN3 C fun w C => ?_)
  refine ok_false (by rw [he]; rfl) ?_
  repeat first
    | with_reducible refine ok_assoc ?_
    | with_reducible refine ok_retB ?_
    | (with_reducible refine ah_newC ?_; refine ok_newL C fun bq w C => ?_)
    | (with_reducible refine ah_ord ?_; refine ok_ordL C fun oq w C => ?_)
    | (with_reducible refine ah_draw ?_; refine ok_drawL C fun w C => ?_)
    | (with_reducible refine ah_ldA ?_; first | refine w_ldA1 C ?_ | refine w_ldA2 C ?_)
    | (with_reducible refine ah_ldA3 ?_; refine w_ldA3 C ?_)
    | (with_reducible refine ah_ldA4 ?_; refine w_ldA4 C ?_)
    | (with_reducible refine ah_ldN ?_; first | refine w_ldN1 C ?_ | refine w_ldN2 C ?_)
    | (with_reducible refine ah_ldN3 ?_; refine w_ldN3 C ?_)
    | (with_reducible refine ah_ldN4 ?_; refine w_ldN4 C ?_)
    | (with_reducible refine ah_chA ?_; first | refine w_chA1 C ?_ | refine w_chA2 C ?_)
    | (with_reducible refine ah_chA3 ?_; refine w_chA3 C ?_)
    | (with_reducible refine ah_chN ?_; first | refine w_chN1 C ?_ | refine w_chN2 C ?_)
    | (with_reducible refine ah_chN4 ?_; refine w_chN4 C ?_)
    | (with_reducible refine ah_wrA ?_; refine w_wrA1 C fun w C => ?_)
    | (with_reducible refine ah_wrN ?_; refine w_wrN1 C fun w C => ?_)
    | (with_reducible refine ah_wrN2 ?_; refine w_wrN2 C fun w C => ?_)
    | (with_reducible refine ah_wrN3 ?_; refine w_wrN3 C fun w C => ?_)
  have hlen : r.2.1.1.len = (dw (nv c)).length := by have := (C.arr (i := 2) (xs := nums .u32 (dw (nv c))) rfl).1; simpa using this
  have hlen1 : r.1.1.len = (dw (nv a)).length := by have := (C.arr (i := 3) (xs := nums .u32 (dw (nv a))) rfl).1; simpa using this
  obtain ⟨N, hN, hNa, hNc, hN2⟩ : ∃ N : Nat, IntKind.wrap .i64 ((maxI (r.1.1.len : Int) (r.2.1.1.len : Int)) + 1) = ((N + 1 : Nat) : Int) ∧ (dw (nv a)).length ≤ N ∧ (dw (nv c)).length ≤ N ∧ N ≤ 1024 := by
    unfold maxI
    split
    · exact ⟨r.2.1.1.len, by rw [wrapI_in (by omega)]; omega, by omega, by omega, by omega⟩
    · exact ⟨r.1.1.len, by rw [wrapI_in (by omega)]; omega, by omega, by omega, by omega⟩
  rw [hN]
  refine ok_bnd.2 (ok_mono (bits_spec (k := N + 1) r.1.2 (C.arr (i := 3) (xs := nums .u32 (dw (nv a))) rfl) (by omega) (by omega)) ?_)
  rintro P w2 ⟨lp, D, dp, lpl, vp⟩
  replace C := C.join D
  simp only [List.cons_append, List.nil_append] at C
  repeat first
    | with_reducible refine ok_assoc ?_
    | with_reducible refine ok_retB ?_
    | (with_reducible refine ah_newC ?_; refine ok_newL C fun bq w C => ?_)
    | (with_reducible refine ah_ord ?_; refine ok_ordL C fun oq w C => ?_)
    | (with_reducible refine ah_draw ?_; refine ok_drawL C fun w C => ?_)
    | (with_reducible refine ah_ldA ?_; first | refine w_ldA1 C ?_ | refine w_ldA2 C ?_)
    | (with_reducible refine ah_ldA3 ?_; refine w_ldA3 C ?_)
    | (with_reducible refine ah_ldA4 ?_; refine w_ldA4 C ?_)
    | (with_reducible refine ah_ldN ?_; first | refine w_ldN1 C ?_ | refine w_ldN2 C ?_)
    | (with_reducible refine ah_ldN3 ?_; refine w_ldN3 C ?_)
    | (with_reducible refine ah_ldN4 ?_; refine w_ldN4 C ?_)
    | (with_reducible refine ah_chA ?_; first | refine w_chA1 C ?_ | refine w_chA2 C ?_)
    | (with_reducible refine ah_chA3 ?_; refine w_chA3 C ?_)
    | (with_reducible refine ah_chN ?_; first | refine w_chN1 C ?_ | refine w_chN2 C ?_)
    | (with_reducible refine ah_chN4 ?_; refine w_chN4 C ?_)
    | (with_reducible refine ah_wrA ?_; refine w_wrA1 C fun w C => ?_)
    | (with_reducible refine ah_wrN ?_; refine w_wrN1 C fun w C => ?_)
    | (with_reducible refine ah_wrN2 ?_; refine w_wrN2 C fun w C => ?_)
    | (with_reducible refine ah_wrN3 ?_; refine w_wrN3 C fun w C => ?_)
  refine ok_bnd.2 (ok_mono (bits_spec (k := N + 1) r.2.1.2 (C.arr (i := 3) (xs := nums .u32 (dw (nv c))) rfl) (by omega) (by omega)) ?_)
  rintro Q w3 ⟨lq, D, dq, lql, vq⟩
  replace C := C.join D
  simp only [List.cons_append, List.nil_append] at C
  repeat first
    | with_reducible refine ok_assoc ?_
    | with_reducible refine ok_retB ?_
    | (with_reducible refine ah_newC ?_; refine ok_newL C fun bq w C => ?_)
    | (with_reducible refine ah_ord ?_; refine ok_ordL C fun oq w C => ?_)
    | (with_reducible refine ah_draw ?_; refine ok_drawL C fun w C => ?_)
    | (with_reducible refine ah_ldA ?_; first | refine w_ldA1 C ?_ | refine w_ldA2 C ?_)
    | (with_reducible refine ah_ldA3 ?_; refine w_ldA3 C ?_)
    | (with_reducible refine ah_ldA4 ?_; refine w_ldA4 C ?_)
    | (with_reducible refine ah_ldN ?_; first | refine w_ldN1 C ?_ | refine w_ldN2 C ?_)
    | (with_reducible refine ah_ldN3 ?_; refine w_ldN3 C ?_)
    | (with_reducible refine ah_ldN4 ?_; refine w_ldN4 C ?_)
    | (with_reducible refine ah_chA ?_; first | refine w_chA1 C ?_ | refine w_chA2 C ?_)
    | (with_reducible refine ah_chA3 ?_; refine w_chA3 C ?_)
    | (with_reducible refine ah_chN ?_; first | refine w_chN1 C ?_ | refine w_chN2 C ?_)
    | (with_reducible refine ah_chN4 ?_; refine w_chN4 C ?_)
    | (with_reducible refine ah_wrA ?_; refine w_wrA1 C fun w C => ?_)
    | (with_reducible refine ah_wrN ?_; refine w_wrN1 C fun w C => ?_)
    | (with_reducible refine ah_wrN2 ?_; refine w_wrN2 C fun w C => ?_)
    | (with_reducible refine ah_wrN3 ?_; refine w_wrN3 C fun w C => ?_)
  refine ok_makeN slt50 C (by omega) (by omega) (by omega) fun v w hv ⟨bv, hb⟩ C => ?_
  rw [Int.toNat_natCast] at C hv
  replace C : Cx No wb w [.own v (nums .u32 (List.replicate (N + 1) 0)), .own Q (nums .u32 lq), .own P (nums .u32 lp), .cells b3 [.bool false, .string (ByteArray.mk #[])]] := C.pick [0, 1, 2, 7] (by simp)
  refine ok_loop (fun (q : Int) w' => ∃ out, Cx No wb w' [.own v (nums .u32 out), .own Q (nums .u32 lq), .own P (nums .u32 lp), .cells b3 [.bool false, .string (ByteArray.mk #[])]] ∧ out.length = N + 1 ∧ DW out ∧ ∃ i : Nat, q = i ∧ i ≤ N + 1 ∧ ∀ j x y, j < i → lp[j]? = some x → lq[j]? = some y → out[j]? = some (g x y))
    (fun q _ => ((N + 1 : Nat) - q).toNat) ?_ _ _ ⟨_, C, by simp, Dg.zeros (by decide) _, 0, rfl, Nat.zero_le _, fun j _ _ hj => by omega⟩
  clear C
  rintro q w ⟨out, C, hl, hd, i, rfl, hi, hv1⟩
  by_cases hlt : i < N + 1
  · refine ok_true (by simp only [decide_eq_true_eq]; omega) ?_
    obtain ⟨x, hx⟩ := get_some (l := lp) (i := i) (by omega)
    obtain ⟨y, hy⟩ := get_some (l := lq) (i := i) (by omega)
    repeat first
      | with_reducible refine ok_assoc ?_
      | with_reducible refine ok_retB ?_
      | (with_reducible refine ah_newC ?_; refine ok_newL C fun bq w C => ?_)
      | (with_reducible refine ah_ord ?_; refine ok_ordL C fun oq w C => ?_)
      | (with_reducible refine ah_draw ?_; refine ok_drawL C fun w C => ?_)
      | (with_reducible refine ah_ldA ?_; first | refine w_ldA1 C ?_ | refine w_ldA2 C ?_)
      | (with_reducible refine ah_ldA3 ?_; refine w_ldA3 C ?_)
      | (with_reducible refine ah_ldA4 ?_; refine w_ldA4 C ?_)
      | (with_reducible refine ah_ldN ?_; first | refine w_ldN1 C ?_ | refine w_ldN2 C ?_)
      | (with_reducible refine ah_ldN3 ?_; refine w_ldN3 C ?_)
      | (with_reducible refine ah_ldN4 ?_; refine w_ldN4 C ?_)
      | (with_reducible refine ah_chA ?_; first | refine w_chA1 C ?_ | refine w_chA2 C ?_)
      | (with_reducible refine ah_chA3 ?_; refine w_chA3 C ?_)
      | (with_reducible refine ah_chN ?_; first | refine w_chN1 C ?_ | refine w_chN2 C ?_)
      | (with_reducible refine ah_chN4 ?_; refine w_chN4 C ?_)
      | (with_reducible refine ah_wrA ?_; refine w_wrA1 C fun w C => ?_)
      | (with_reducible refine ah_wrN ?_; refine w_wrN1 C fun w C => ?_)
      | (with_reducible refine ah_wrN2 ?_; refine w_wrN2 C fun w C => ?_)
      | (with_reducible refine ah_wrN3 ?_; refine w_wrN3 C fun w C => ?_)
    refine ok_get2 (C.arr (i := 2) (xs := nums .u32 lp) rfl) (by omega) (n := x) (by rw [Int.toNat_natCast]; exact hx) ?_
    repeat first
      | with_reducible refine ok_assoc ?_
      | with_reducible refine ok_retB ?_
      | (with_reducible refine ah_newC ?_; refine ok_newL C fun bq w C => ?_)
      | (with_reducible refine ah_ord ?_; refine ok_ordL C fun oq w C => ?_)
      | (with_reducible refine ah_draw ?_; refine ok_drawL C fun w C => ?_)
      | (with_reducible refine ah_ldA ?_; first | refine w_ldA1 C ?_ | refine w_ldA2 C ?_)
      | (with_reducible refine ah_ldA3 ?_; refine w_ldA3 C ?_)
      | (with_reducible refine ah_ldA4 ?_; refine w_ldA4 C ?_)
      | (with_reducible refine ah_ldN ?_; first | refine w_ldN1 C ?_ | refine w_ldN2 C ?_)
      | (with_reducible refine ah_ldN3 ?_; refine w_ldN3 C ?_)
      | (with_reducible refine ah_ldN4 ?_; refine w_ldN4 C ?_)
      | (with_reducible refine ah_chA ?_; first | refine w_chA1 C ?_ | refine w_chA2 C ?_)
      | (with_reducible refine ah_chA3 ?_; refine w_chA3 C ?_)
      | (with_reducible refine ah_chN ?_; first | refine w_chN1 C ?_ | refine w_chN2 C ?_)
      | (with_reducible refine ah_chN4 ?_; refine w_chN4 C ?_)
      | (with_reducible refine ah_wrA ?_; refine w_wrA1 C fun w C => ?_)
      | (with_reducible refine ah_wrN ?_; refine w_wrN1 C fun w C => ?_)
      | (with_reducible refine ah_wrN2 ?_; refine w_wrN2 C fun w C => ?_)
      | (with_reducible refine ah_wrN3 ?_; refine w_wrN3 C fun w C => ?_)
    refine ok_get2 (C.arr (i := 1) (xs := nums .u32 lq) rfl) (by omega) (n := y) (by rw [Int.toNat_natCast]; exact hy) ?_
    repeat first
      | with_reducible refine ok_assoc ?_
      | with_reducible refine ok_retB ?_
      | (with_reducible refine ah_newC ?_; refine ok_newL C fun bq w C => ?_)
      | (with_reducible refine ah_ord ?_; refine ok_ordL C fun oq w C => ?_)
      | (with_reducible refine ah_draw ?_; refine ok_drawL C fun w C => ?_)
      | (with_reducible refine ah_ldA ?_; first | refine w_ldA1 C ?_ | refine w_ldA2 C ?_)
      | (with_reducible refine ah_ldA3 ?_; refine w_ldA3 C ?_)
      | (with_reducible refine ah_ldA4 ?_; refine w_ldA4 C ?_)
      | (with_reducible refine ah_ldN ?_; first | refine w_ldN1 C ?_ | refine w_ldN2 C ?_)
      | (with_reducible refine ah_ldN3 ?_; refine w_ldN3 C ?_)
      | (with_reducible refine ah_ldN4 ?_; refine w_ldN4 C ?_)
      | (with_reducible refine ah_chA ?_; first | refine w_chA1 C ?_ | refine w_chA2 C ?_)
      | (with_reducible refine ah_chA3 ?_; refine w_chA3 C ?_)
      | (with_reducible refine ah_chN ?_; first | refine w_chN1 C ?_ | refine w_chN2 C ?_)
      | (with_reducible refine ah_chN4 ?_; refine w_chN4 C ?_)
      | (with_reducible refine ah_wrA ?_; refine w_wrA1 C fun w C => ?_)
      | (with_reducible refine ah_wrN ?_; refine w_wrN1 C fun w C => ?_)
      | (with_reducible refine ah_wrN2 ?_; refine w_wrN2 C fun w C => ?_)
      | (with_reducible refine ah_wrN3 ?_; refine w_wrN3 C fun w C => ?_)
    rw [O.call]
    repeat first
      | with_reducible refine ok_assoc ?_
      | with_reducible refine ok_retB ?_
      | (with_reducible refine ah_newC ?_; refine ok_newL C fun bq w C => ?_)
      | (with_reducible refine ah_ord ?_; refine ok_ordL C fun oq w C => ?_)
      | (with_reducible refine ah_draw ?_; refine ok_drawL C fun w C => ?_)
      | (with_reducible refine ah_ldA ?_; first | refine w_ldA1 C ?_ | refine w_ldA2 C ?_)
      | (with_reducible refine ah_ldA3 ?_; refine w_ldA3 C ?_)
      | (with_reducible refine ah_ldA4 ?_; refine w_ldA4 C ?_)
      | (with_reducible refine ah_ldN ?_; first | refine w_ldN1 C ?_ | refine w_ldN2 C ?_)
      | (with_reducible refine ah_ldN3 ?_; refine w_ldN3 C ?_)
      | (with_reducible refine ah_ldN4 ?_; refine w_ldN4 C ?_)
      | (with_reducible refine ah_chA ?_; first | refine w_chA1 C ?_ | refine w_chA2 C ?_)
      | (with_reducible refine ah_chA3 ?_; refine w_chA3 C ?_)
      | (with_reducible refine ah_chN ?_; first | refine w_chN1 C ?_ | refine w_chN2 C ?_)
      | (with_reducible refine ah_chN4 ?_; refine w_chN4 C ?_)
      | (with_reducible refine ah_wrA ?_; refine w_wrA1 C fun w C => ?_)
      | (with_reducible refine ah_wrN ?_; refine w_wrN1 C fun w C => ?_)
      | (with_reducible refine ah_wrN2 ?_; refine w_wrN2 C fun w C => ?_)
      | (with_reducible refine ah_wrN3 ?_; refine w_wrN3 C fun w C => ?_)
    repeat first
      | with_reducible refine ok_assoc ?_
      | with_reducible refine ok_retB ?_
      | (with_reducible refine ah_newC ?_; refine ok_newL C fun bq w C => ?_)
      | (with_reducible refine ah_ord ?_; refine ok_ordL C fun oq w C => ?_)
      | (with_reducible refine ah_draw ?_; refine ok_drawL C fun w C => ?_)
      | (with_reducible refine ah_ldA ?_; first | refine w_ldA1 C ?_ | refine w_ldA2 C ?_)
      | (with_reducible refine ah_ldA3 ?_; refine w_ldA3 C ?_)
      | (with_reducible refine ah_ldA4 ?_; refine w_ldA4 C ?_)
      | (with_reducible refine ah_ldN ?_; first | refine w_ldN1 C ?_ | refine w_ldN2 C ?_)
      | (with_reducible refine ah_ldN3 ?_; refine w_ldN3 C ?_)
      | (with_reducible refine ah_ldN4 ?_; refine w_ldN4 C ?_)
      | (with_reducible refine ah_chA ?_; first | refine w_chA1 C ?_ | refine w_chA2 C ?_)
      | (with_reducible refine ah_chA3 ?_; refine w_chA3 C ?_)
      | (with_reducible refine ah_chN ?_; first | refine w_chN1 C ?_ | refine w_chN2 C ?_)
      | (with_reducible refine ah_chN4 ?_; refine w_chN4 C ?_)
      | (with_reducible refine ah_wrA ?_; refine w_wrA1 C fun w C => ?_)
      | (with_reducible refine ah_wrN ?_; refine w_wrN1 C fun w C => ?_)
      | (with_reducible refine ah_wrN2 ?_; refine w_wrN2 C fun w C => ?_)
      | (with_reducible refine ah_wrN3 ?_; refine w_wrN3 C fun w C => ?_)
    have wx := dp.get hx
    have wy := dq.get hy
    obtain ⟨X, rfl⟩ := Int.eq_ofNat_of_zero_le wx.1
    obtain ⟨Y, rfl⟩ := Int.eq_ofNat_of_zero_le wy.1
    obtain ⟨Z, hZ, hZ1, _⟩ := O.word X Y (by have h9 : (X : Int) < 4294967296 := wx.2; omega) (by have h9 : (Y : Int) < 4294967296 := wy.2; omega)
    refine ok_ixO hb (by omega) (by omega) ?_
    rw [Int.toNat_natCast]
    refine ok_assoc ?_
    refine ok_wrO C (i := 0) rfl hb (by omega) fun w5 C5 => ?_
    repeat first
      | with_reducible refine ok_assoc ?_
      | with_reducible refine ok_retB ?_
      | (with_reducible refine ah_newC ?_; refine ok_newL C fun bq w C => ?_)
      | (with_reducible refine ah_ord ?_; refine ok_ordL C fun oq w C => ?_)
      | (with_reducible refine ah_draw ?_; refine ok_drawL C fun w C => ?_)
      | (with_reducible refine ah_ldA ?_; first | refine w_ldA1 C ?_ | refine w_ldA2 C ?_)
      | (with_reducible refine ah_ldA3 ?_; refine w_ldA3 C ?_)
      | (with_reducible refine ah_ldA4 ?_; refine w_ldA4 C ?_)
      | (with_reducible refine ah_ldN ?_; first | refine w_ldN1 C ?_ | refine w_ldN2 C ?_)
      | (with_reducible refine ah_ldN3 ?_; refine w_ldN3 C ?_)
      | (with_reducible refine ah_ldN4 ?_; refine w_ldN4 C ?_)
      | (with_reducible refine ah_chA ?_; first | refine w_chA1 C ?_ | refine w_chA2 C ?_)
      | (with_reducible refine ah_chA3 ?_; refine w_chA3 C ?_)
      | (with_reducible refine ah_chN ?_; first | refine w_chN1 C ?_ | refine w_chN2 C ?_)
      | (with_reducible refine ah_chN4 ?_; refine w_chN4 C ?_)
      | (with_reducible refine ah_wrA ?_; refine w_wrA1 C fun w C => ?_)
      | (with_reducible refine ah_wrN ?_; refine w_wrN1 C fun w C => ?_)
      | (with_reducible refine ah_wrN2 ?_; refine w_wrN2 C fun w C => ?_)
      | (with_reducible refine ah_wrN3 ?_; refine w_wrN3 C fun w C => ?_)
    refine ok_ret.2 ⟨⟨_, C5, by simp [hl], hd.set _ (by rw [hZ]; omega) (by rw [hZ]; show (Z : Int) < 4294967296; omega), i + 1, ?_, by omega, ?_⟩, ?_⟩
    · rw [wrapI_in (by omega)]; simp
    · intro j x' y' hj hx' hy'
      by_cases hji : j = i
      · subst hji
        rw [hx] at hx'; rw [hy] at hy'
        simp only [Option.some.injEq] at hx' hy'
        subst hx' hy'
        rw [List.getElem?_set_self (by omega)]
      · rw [List.getElem?_set_ne (by omega)]
        exact hv1 j x' y' (by omega) hx' hy'
    · rw [wrapI_in (by omega)]; omega
  have hie : i = N + 1 := by omega
  subst hie
  refine ok_false (by simp only [decide_eq_false_iff_not]; omega) ?_
  refine ok_bnd.2 ?_
  have e1 : IntKind.wrap .i64 (((N + 1 : Nat) : Int) - 1) = (N : Int) := by rw [wrapI_in (by omega)]; omega
  rw [e1]
  obtain ⟨t, ht1⟩ := get_some (l := out) (i := N) (by omega)
  refine ok_ixO hb (by omega) (by omega) ?_
  rw [Int.toNat_natCast]
  refine ok_ldO C (i := 0) rfl hb ht1 ?_
  have wt := hd.get ht1
  -- the number that the words make
  have hR0 := vl_nonneg (b := (BW : Int)) (by decide) hd
  have hR1 := vl_lt (b := (BW : Int)) (by decide) hd
  rw [hl] at hR1
  have hbits : ∀ j, j ≤ 32 * N + 31 → (vl (BW : Int) out).toNat.testBit j = f (zb (iv a) j) (zb (iv c) j) := by
    intro j hj
    obtain ⟨x, hx⟩ := get_some (l := lp) (i := j / 32) (by omega)
    obtain ⟨y, hy⟩ := get_some (l := lq) (i := j / 32) (by omega)
    have ho := hv1 (j / 32) x y (by omega) hx hy
    have h1 := bit_of_vl (k := j % 32) hd ho (by omega)
    have h2 := bit_of_vl (k := j % 32) dp hx (by omega)
    have h3 := bit_of_vl (k := j % 32) dq hy (by omega)
    rw [Nat.div_add_mod] at h1 h2 h3
    have h4 : (vl (BW : Int) lp).toNat.testBit j = zb (sv r.1.2 (nv a)) j := bit_mod dp vp (by omega)
    have h5 : (vl (BW : Int) lq).toNat.testBit j = zb (sv r.2.1.2 (nv c)) j := bit_mod dq vq (by omega)
    rw [hs] at h4
    rw [ht] at h5
    have wx := dp.get hx
    have wy := dq.get hy
    obtain ⟨X, rfl⟩ := Int.eq_ofNat_of_zero_le wx.1
    obtain ⟨Y, rfl⟩ := Int.eq_ofNat_of_zero_le wy.1
    obtain ⟨Z, hZ, hZ1, hZb⟩ := O.word X Y (by have h9 : (X : Int) < 4294967296 := wx.2; omega) (by have h9 : (Y : Int) < 4294967296 := wy.2; omega)
    rw [hZ, Int.toNat_natCast] at h1
    rw [Int.toNat_natCast] at h2 h3
    rw [h1, hZb, ← h2, ← h3, h4, h5]
    rfl
  have eP : BW ^ (N + 1) = 2 ^ (32 * N + 31 + 1) := by
    rw [show 32 * N + 31 + 1 = 32 * (N + 1) by omega, Nat.pow_mul]
  have eN : ∀ n, (dw n).length ≤ N → n < 2 ^ (32 * N + 31) := by
    intro n hn
    have h1 := lt_dgs hBW n
    have h2 : BW ^ (dgs BW n).length ≤ BW ^ N := Nat.pow_le_pow_right (by decide) hn
    have h3 : BW ^ N = 2 ^ (32 * N) := by rw [Nat.pow_mul]
    have h4 : 2 ^ (32 * N) ≤ 2 ^ (32 * N + 31) := Nat.pow_le_pow_right (by decide) (by omega)
    omega
  obtain ⟨R, hRe⟩ := Int.eq_ofNat_of_zero_le hR0
  rw [hRe] at hR1
  have hRlt : R < 2 ^ (32 * N + 31 + 1) := by
    rw [← eP]; exact_mod_cast hR1
  rw [hRe, Int.toNat_natCast] at hbits
  have hbw := bitw_of O.f0 (a := iv a) (b := iv c) (M := 32 * N + 31) (range_sv (eN _ hNa)) (range_sv (eN _ hNc)) hRlt hbits
  rw [logZ_eq hbw]
  have htop : ((shrI .u32 t 31) == (1 : Int)) = R.testBit (32 * N + 31) := by
    have h1 := bit_of_vl (k := 31) hd ht1 (by omega)
    rw [hRe, Int.toNat_natCast] at h1
    rw [h1]
    obtain ⟨T, rfl⟩ := Int.eq_ofNat_of_zero_le wt.1
    have hT : (T : Int) < 4294967296 := wt.2
    rw [shr_nat T 31 (by decide), Int.toNat_natCast, Nat.testBit_eq_decide_div_mod_eq, Bool.eq_iff_iff, beq_iff_eq, decide_eq_true_eq]
    omega
  rw [htop]
  by_cases hneg : R.testBit (32 * N + 31) = true
  · rw [if_pos hneg]
    refine ok_tB hneg ?_
    refine ok_assoc (ok_bnd.2 (ok_mono (turn_spec (C.ret (i := 0) (xs := nums .u32 out) rfl) hd (by omega)) ?_))
    rintro _ w2 ⟨hk, o, ho, hdo, hlo, hvo⟩
    have C2 := C.turnOwn (i := 0) (ys := nums .u32 o) rfl hk (own_lower ho (Nat.zero_le _))
    refine ok_retB ?_
    have hRpos : R ≠ 0 := by rintro rfl; simp at hneg
    rw [hRe, hl] at hvo
    have hv2 : vl (BW : Int) o = (BW : Int) ^ (N + 1) - R := by
      rw [hvo]; exact Int.emod_eq_of_lt (by omega) (by omega)
    refine ok_callL C2 (told_spec (C2.arr (i := 0) (xs := nums .u32 o) rfl) hdo (by omega) _) (fun r w' h => h.1) ?_
    rintro x w3 ⟨_, hx⟩ C
    rw [vw, hv2, hneg] at hx
    have e5 : sv true ((BW : Int) ^ (N + 1) - (R : Int)).toNat = (R : Int) - 2 ^ (32 * N + 31 + 1) := by
      have : (BW : Int) ^ (N + 1) = 2 ^ (32 * N + 31 + 1) := by
        have := congrArg (fun n : Nat => (n : Int)) eP
        simpa using this
      rw [← this]
      show -(((((BW : Int) ^ (N + 1) - (R : Int)).toNat : Nat)) : Int) = _
      omega
    rw [e5] at hx
    subst hx
    repeat first
      | with_reducible refine ok_assoc ?_
      | with_reducible refine ok_retB ?_
      | (with_reducible refine ah_newC ?_; refine ok_newL C fun bq w C => ?_)
      | (with_reducible refine ah_ord ?_; refine ok_ordL C fun oq w C => ?_)
      | (with_reducible refine ah_draw ?_; refine ok_drawL C fun w C => ?_)
      | (with_reducible refine ah_ldA ?_; first | refine w_ldA1 C ?_ | refine w_ldA2 C ?_)
      | (with_reducible refine ah_ldA3 ?_; refine w_ldA3 C ?_)
      | (with_reducible refine ah_ldA4 ?_; refine w_ldA4 C ?_)
      | (with_reducible refine ah_ldN ?_; first | refine w_ldN1 C ?_ | refine w_ldN2 C ?_)
      | (with_reducible refine ah_ldN3 ?_; refine w_ldN3 C ?_)
      | (with_reducible refine ah_ldN4 ?_; refine w_ldN4 C ?_)
      | (with_reducible refine ah_chA ?_; first | refine w_chA1 C ?_ | refine w_chA2 C ?_)
      | (with_reducible refine ah_chA3 ?_; refine w_chA3 C ?_)
      | (with_reducible refine ah_chN ?_; first | refine w_chN1 C ?_ | refine w_chN2 C ?_)
      | (with_reducible refine ah_chN4 ?_; refine w_chN4 C ?_)
      | (with_reducible refine ah_wrA ?_; refine w_wrA1 C fun w C => ?_)
      | (with_reducible refine ah_wrN ?_; refine w_wrN1 C fun w C => ?_)
      | (with_reducible refine ah_wrN2 ?_; refine w_wrN2 C fun w C => ?_)
      | (with_reducible refine ah_wrN3 ?_; refine w_wrN3 C fun w C => ?_)
    exact ok_ret.2 (ok_ret.2 ⟨C.below, rfl⟩)
  · rw [if_neg hneg]
    rw [Bool.not_eq_true] at hneg
    refine ok_fB hneg ?_
    repeat first
      | with_reducible refine ok_assoc ?_
      | with_reducible refine ok_retB ?_
      | (with_reducible refine ah_newC ?_; refine ok_newL C fun bq w C => ?_)
      | (with_reducible refine ah_ord ?_; refine ok_ordL C fun oq w C => ?_)
      | (with_reducible refine ah_draw ?_; refine ok_drawL C fun w C => ?_)
      | (with_reducible refine ah_ldA ?_; first | refine w_ldA1 C ?_ | refine w_ldA2 C ?_)
      | (with_reducible refine ah_ldA3 ?_; refine w_ldA3 C ?_)
      | (with_reducible refine ah_ldA4 ?_; refine w_ldA4 C ?_)
      | (with_reducible refine ah_ldN ?_; first | refine w_ldN1 C ?_ | refine w_ldN2 C ?_)
      | (with_reducible refine ah_ldN3 ?_; refine w_ldN3 C ?_)
      | (with_reducible refine ah_ldN4 ?_; refine w_ldN4 C ?_)
      | (with_reducible refine ah_chA ?_; first | refine w_chA1 C ?_ | refine w_chA2 C ?_)
      | (with_reducible refine ah_chA3 ?_; refine w_chA3 C ?_)
      | (with_reducible refine ah_chN ?_; first | refine w_chN1 C ?_ | refine w_chN2 C ?_)
      | (with_reducible refine ah_chN4 ?_; refine w_chN4 C ?_)
      | (with_reducible refine ah_wrA ?_; refine w_wrA1 C fun w C => ?_)
      | (with_reducible refine ah_wrN ?_; refine w_wrN1 C fun w C => ?_)
      | (with_reducible refine ah_wrN2 ?_; refine w_wrN2 C fun w C => ?_)
      | (with_reducible refine ah_wrN3 ?_; refine w_wrN3 C fun w C => ?_)
    refine ok_callL C (told_spec (C.arr (i := 0) (xs := nums .u32 out) rfl) hd (by omega) _) (fun r w' h => h.1) ?_
    rintro x w3 ⟨_, hx⟩ C
    rw [vw, hRe, Int.toNat_natCast, hneg] at hx
    subst hx
    repeat first
      | with_reducible refine ok_assoc ?_
      | with_reducible refine ok_retB ?_
      | (with_reducible refine ah_newC ?_; refine ok_newL C fun bq w C => ?_)
      | (with_reducible refine ah_ord ?_; refine ok_ordL C fun oq w C => ?_)
      | (with_reducible refine ah_draw ?_; refine ok_drawL C fun w C => ?_)
      | (with_reducible refine ah_ldA ?_; first | refine w_ldA1 C ?_ | refine w_ldA2 C ?_)
      | (with_reducible refine ah_ldA3 ?_; refine w_ldA3 C ?_)
      | (with_reducible refine ah_ldA4 ?_; refine w_ldA4 C ?_)
      | (with_reducible refine ah_ldN ?_; first | refine w_ldN1 C ?_ | refine w_ldN2 C ?_)
      | (with_reducible refine ah_ldN3 ?_; refine w_ldN3 C ?_)
      | (with_reducible refine ah_ldN4 ?_; refine w_ldN4 C ?_)
      | (with_reducible refine ah_chA ?_; first | refine w_chA1 C ?_ | refine w_chA2 C ?_)
      | (with_reducible refine ah_chA3 ?_; refine w_chA3 C ?_)
      | (with_reducible refine ah_chN ?_; first | refine w_chN1 C ?_ | refine w_chN2 C ?_)
      | (with_reducible refine ah_chN4 ?_; refine w_chN4 C ?_)
      | (with_reducible refine ah_wrA ?_; refine w_wrA1 C fun w C => ?_)
      | (with_reducible refine ah_wrN ?_; refine w_wrN1 C fun w C => ?_)
      | (with_reducible refine ah_wrN2 ?_; refine w_wrN2 C fun w C => ?_)
      | (with_reducible refine ah_wrN3 ?_; refine w_wrN3 C fun w C => ?_)
    exact ok_ret.2 (ok_ret.2 ⟨C.below, rfl⟩)
theorem and_is (a b : Lg) : Is (f24_largeint_And a b) (logR and a b) := by
  intro wb
  unfold f24_largeint_And
  have C := Cx.nil No wb
  repeat first
    | with_reducible refine ok_assoc ?_
    | with_reducible refine ok_retB ?_
    | refine ok_is C (logic_is wop_and _ _) fun w C => ?_
    | (with_reducible refine ah_newC ?_; refine ok_newL C fun bq w C => ?_)
    | (with_reducible refine ah_ord ?_; refine ok_ordL C fun oq w C => ?_)
    | (with_reducible refine ah_draw ?_; refine ok_drawL C fun w C => ?_)
    | (with_reducible refine ah_ldA ?_; first | refine w_ldA1 C ?_ | refine w_ldA2 C ?_)
    | (with_reducible refine ah_ldA3 ?_; refine w_ldA3 C ?_)
    | (with_reducible refine ah_ldA4 ?_; refine w_ldA4 C ?_)
    | (with_reducible refine ah_ldN ?_; first | refine w_ldN1 C ?_ | refine w_ldN2 C ?_)
    | (with_reducible refine ah_ldN3 ?_; refine w_ldN3 C ?_)
    | (with_reducible refine ah_ldN4 ?_; refine w_ldN4 C ?_)
    | (with_reducible refine ah_chA ?_; first | refine w_chA1 C ?_ | refine w_chA2 C ?_)
    | (with_reducible refine ah_chA3 ?_; refine w_chA3 C ?_)
    | (with_reducible refine ah_chN ?_; first | refine w_chN1 C ?_ | refine w_chN2 C ?_)
    | (with_reducible refine ah_chN4 ?_; refine w_chN4 C ?_)
    | (with_reducible refine ah_wrA ?_; refine w_wrA1 C fun w C => ?_)
    | (with_reducible refine ah_wrN ?_; refine w_wrN1 C fun w C => ?_)
    | (with_reducible refine ah_wrN2 ?_; refine w_wrN2 C fun w C => ?_)
    | (with_reducible refine ah_wrN3 ?_; refine w_wrN3 C fun w C => ?_)
  exact ok_ret.2 ⟨C.below, rfl⟩
theorem or_is (a b : Lg) : Is (f26_largeint_Or a b) (logR or a b) := by
  intro wb
  unfold f26_largeint_Or
  have C := Cx.nil No wb
  repeat first
    | with_reducible refine ok_assoc ?_
    | with_reducible refine ok_retB ?_
    | refine ok_is C (logic_is wop_or _ _) fun w C => ?_
    | (with_reducible refine ah_newC ?_; refine ok_newL C fun bq w C => ?_)
    | (with_reducible refine ah_ord ?_; refine ok_ordL C fun oq w C => ?_)
    | (with_reducible refine ah_draw ?_; refine ok_drawL C fun w C => ?_)
    | (with_reducible refine ah_ldA ?_; first | refine w_ldA1 C ?_ | refine w_ldA2 C ?_)
    | (with_reducible refine ah_ldA3 ?_; refine w_ldA3 C ?_)
    | (with_reducible refine ah_ldA4 ?_; refine w_ldA4 C ?_)
    | (with_reducible refine ah_ldN ?_; first | refine w_ldN1 C ?_ | refine w_ldN2 C ?_)
    | (with_reducible refine ah_ldN3 ?_; refine w_ldN3 C ?_)
    | (with_reducible refine ah_ldN4 ?_; refine w_ldN4 C ?_)
    | (with_reducible refine ah_chA ?_; first | refine w_chA1 C ?_ | refine w_chA2 C ?_)
    | (with_reducible refine ah_chA3 ?_; refine w_chA3 C ?_)
    | (with_reducible refine ah_chN ?_; first | refine w_chN1 C ?_ | refine w_chN2 C ?_)
    | (with_reducible refine ah_chN4 ?_; refine w_chN4 C ?_)
    | (with_reducible refine ah_wrA ?_; refine w_wrA1 C fun w C => ?_)
    | (with_reducible refine ah_wrN ?_; refine w_wrN1 C fun w C => ?_)
    | (with_reducible refine ah_wrN2 ?_; refine w_wrN2 C fun w C => ?_)
    | (with_reducible refine ah_wrN3 ?_; refine w_wrN3 C fun w C => ?_)
  exact ok_ret.2 ⟨C.below, rfl⟩
theorem xor_is (a b : Lg) : Is (f28_largeint_Xor a b) (logR xor a b) := by
  intro wb
  unfold f28_largeint_Xor
  have C := Cx.nil No wb
  repeat first
    | with_reducible refine ok_assoc ?_
    | with_reducible refine ok_retB ?_
    | refine ok_is C (logic_is wop_xor _ _) fun w C => ?_
    | (with_reducible refine ah_newC ?_; refine ok_newL C fun bq w C => ?_)
    | (with_reducible refine ah_ord ?_; refine ok_ordL C fun oq w C => ?_)
    | (with_reducible refine ah_draw ?_; refine ok_drawL C fun w C => ?_)
    | (with_reducible refine ah_ldA ?_; first | refine w_ldA1 C ?_ | refine w_ldA2 C ?_)
    | (with_reducible refine ah_ldA3 ?_; refine w_ldA3 C ?_)
    | (with_reducible refine ah_ldA4 ?_; refine w_ldA4 C ?_)
    | (with_reducible refine ah_ldN ?_; first | refine w_ldN1 C ?_ | refine w_ldN2 C ?_)
    | (with_reducible refine ah_ldN3 ?_; refine w_ldN3 C ?_)
    | (with_reducible refine ah_ldN4 ?_; refine w_ldN4 C ?_)
    | (with_reducible refine ah_chA ?_; first | refine w_chA1 C ?_ | refine w_chA2 C ?_)
    | (with_reducible refine ah_chA3 ?_; refine w_chA3 C ?_)
    | (with_reducible refine ah_chN ?_; first | refine w_chN1 C ?_ | refine w_chN2 C ?_)
    | (with_reducible refine ah_chN4 ?_; refine w_chN4 C ?_)
    | (with_reducible refine ah_wrA ?_; refine w_wrA1 C fun w C => ?_)
    | (with_reducible refine ah_wrN ?_; refine w_wrN1 C fun w C => ?_)
    | (with_reducible refine ah_wrN2 ?_; refine w_wrN2 C fun w C => ?_)
    | (with_reducible refine ah_wrN3 ?_; refine w_wrN3 C fun w C => ?_)
  exact ok_ret.2 ⟨C.below, rfl⟩
end Go.Proofs.Ytoekfjgikicclaa
