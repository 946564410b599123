/-
  Part of the proof: L30. It states what the functions do; no further condition.
-/
import Derived.Test.YtoekfjgikicclaaL29
set_option linter.unusedVariables false
set_option linter.unusedSimpArgs false
namespace Go.Sh
set_option linter.unusedVariables false
open Go.RowKit
/-- What a digit of a text is worth. -/
def cval (c : Int) : Int := if 48 ≤ c ∧ c ≤ 57 then c - 48 else if 65 ≤ c ∧ c ≤ 90 then c - 55 else -1
def okc (b : Nat) (c : Int) : Prop := 0 ≤ cval c ∧ cval c < b
instance (b : Nat) (c : Int) : Decidable (okc b c) := inferInstanceAs (Decidable (_ ∧ _))
/-- What digits of a text are worth. -/
def pv (b : Nat) (T : List Int) : Nat := T.foldl (fun v c => v * b + (cval c).toNat) 0
def pneg (L : List Int) : Bool := decide (L.head? = some 45)
def pbody (L : List Int) : List Int := if pneg L then L.tail else L
def pbad1 (L : List Int) : Prop := pbody L = [] ∨ ((pbody L).head? = some 48 ∧ (pneg L = true ∨ pbody L ≠ [48]))
def pbad (b : Nat) (L : List Int) : Prop := pbad1 L ∨ ∃ c ∈ pbody L, ¬ okc b c
instance (L : List Int) : Decidable (pbad1 L) := inferInstanceAs (Decidable (_ ∨ _))
instance (b : Nat) (L : List Int) : Decidable (pbad b L) := inferInstanceAs (Decidable (_ ∨ _))
def parseR (s : ByteArray) (b : Int) : Lg × Int := if b < 2 ∨ 36 < b then (zr, 1) else if pbad b.toNat (bl s) then (zr, 93) else toldZ (sv (pneg (bl s)) (pv b.toNat (pbody (bl s))))
theorem cval_dch {i : Int} (h0 : 0 ≤ i) (h1 : i < 36) : cval (dch i) = i := by unfold cval dch; (repeat' split) <;> omega
theorem dch_cval {c : Int} (h0 : 0 ≤ cval c) : dch (cval c) = c := by
  unfold cval dch at *
  (repeat' split at h0) <;> (repeat' split) <;> omega
theorem dig_get {b i : Nat} (hb : b ≤ 36) (hi : i < b) : ((bl digB).take b)[i]? = some (dch i) := by
  rw [List.getElem?_take_of_lt hi]; exact tab_at ⟨i, by omega⟩
theorem dig_mem {b : Nat} (hb : b ≤ 36) {c : Int} : c ∈ (bl digB).take b ↔ okc b c := by
  constructor
  · intro h
    obtain ⟨i, hi, he⟩ := List.getElem_of_mem h
    have hib : i < b := by rw [List.length_take] at hi; omega
    have := dig_get hb hib
    rw [List.getElem?_eq_getElem hi, he, Option.some.injEq] at this
    rw [this]
    unfold okc
    rw [cval_dch (by omega) (by omega)]; omega
  · rintro ⟨h0, h1⟩
    have := dig_get hb (i := (cval c).toNat) (by omega)
    rw [show (((cval c).toNat : Nat) : Int) = cval c by omega, dch_cval h0] at this
    exact List.mem_of_getElem? this
theorem dig_idx {b i : Nat} (hb : b ≤ 36) {c : Int} (h : ((bl digB).take b)[i]? = some c) : (i : Int) = cval c := by
  have hib : i < b := by
    rcases Nat.lt_or_ge i b with h' | h'
    · exact h'
    · rw [List.getElem?_eq_none (by rw [List.length_take]; omega)] at h; cases h
  rw [dig_get hb hib, Option.some.injEq] at h
  rw [← h, cval_dch (by omega) (by omega)]
theorem bl_extract (s : ByteArray) (i j : Nat) : bl (s.extract i j) = ((bl s).take j).drop i := by
  unfold bl
  rw [ByteArray.data_extract, Array.toList_extract]
  simp [List.extract, List.drop_take]
theorem ok_slcS {α : Type} {s : ByteArray} {lo hi : Option Int} {w : World} {f : ByteArray → M α} {Q : α → World → Prop} (h0 : 0 ≤ lo.getD 0) (h1 : lo.getD 0 ≤ hi.getD s.size) (h2 : hi.getD s.size ≤ s.size) (hq : Ok (f (s.extract (lo.getD 0).toNat (hi.getD s.size).toNat)) w Q) : Ok (bnd (slcS s lo hi) f) w Q := by
  refine ok_bnd.2 ?_
  unfold slcS
  refine ok_bnd.2 ?_
  have e1 : Ok (boundO hi s.size s.size) w fun m w' => m = (hi.getD s.size).toNat ∧ w' = w := by
    cases hi with
    | none => exact ok_ret.2 ⟨by simp, rfl⟩
    | some v => exact ok_bound (by simp at h1; omega) (by simpa using h2) ⟨rfl, rfl⟩
  refine ok_mono e1 ?_
  rintro m w1 ⟨rfl, rfl⟩
  refine ok_bnd.2 ?_
  have e2 : Ok (boundO lo (hi.getD s.size).toNat 0) w1 fun m w' => m = (lo.getD 0).toNat ∧ w' = w1 := by
    cases lo with
    | none => exact ok_ret.2 ⟨rfl, rfl⟩
    | some v => exact ok_bound (by simpa using h0) (by simp only [Option.getD_some] at h0 h1 ⊢; omega) ⟨rfl, rfl⟩
  refine ok_mono e2 ?_
  rintro m w2 ⟨rfl, rfl⟩
  exact ok_ret.2 hq
theorem pv_take_succ {b : Nat} {T : List Int} {i : Nat} {c : Int} (h : T[i]? = some c) : pv b (T.take (i + 1)) = pv b (T.take i) * b + (cval c).toNat := by
  unfold pv
  rw [List.take_add_one, h, Option.toList_some, List.foldl_append]
  rfl
theorem pv_mono {b : Nat} (hb : 1 ≤ b) (T : List Int) : ∀ k i, pv b (T.take i) ≤ pv b (T.take (i + k))
  | 0, i => Nat.le_refl _
  | k + 1, i => by
    refine Nat.le_trans (pv_mono hb T k i) ?_
    by_cases h : i + k < T.length
    · rw [show i + (k + 1) = i + k + 1 from rfl, pv_take_succ (List.getElem?_eq_getElem h)]
      exact Nat.le_trans (Nat.le_mul_of_pos_right _ hb) (Nat.le_add_right _ _)
    · rw [List.take_of_length_le (show T.length ≤ i + k by omega), List.take_of_length_le (show T.length ≤ i + (k + 1) by omega)]
      exact Nat.le_refl _
theorem pv_le {b : Nat} (hb : 1 ≤ b) (T : List Int) (i : Nat) : pv b (T.take i) ≤ pv b T := by
  have := pv_mono hb T T.length i
  rwa [List.take_of_length_le (show T.length ≤ i + T.length by omega)] at this
theorem words_big {n : Nat} (h : 1024 < (dgs 4294967296 n).length) : tooBig n := by
  have h2 := words_of (n := n) (s := (db n).length) rfl
  unfold tooBig
  omega
end Go.Sh
namespace Go.Proofs.Ytoekfjgikicclaa
set_option linter.unusedVariables false
open Go.Sh Go.RowKit
set_option maxRecDepth 100000
/-! ### A text read -/
theorem contains_spec {B : Nat} {w : World} {s : Sl} {l : List Int} {x : Int} (H : Arr B w s (nums .u8 l)) (ls : s.len ≤ 1000000000) :
    Ok (f58_slices_Containsbyte_byte s x) w fun r w' => w' = w ∧ r = decide (x ∈ l) := by
  unfold f58_slices_Containsbyte_byte
  refine ok_bnd.2 (ok_mono (index_spec (x := x) H ls) ?_)
  rintro r w1 ⟨rfl, h⟩
  refine ok_ret.2 ⟨rfl, ?_⟩
  rw [decide_eq_decide]
  rcases h with ⟨i, rfl, h1, _⟩ | ⟨rfl, h1⟩
  · exact ⟨fun _ => List.mem_of_getElem? h1, fun _ => by omega⟩
  · exact ⟨fun h => by omega, fun h => absurd h h1⟩
theorem parse_is (s : ByteArray) (hs : s.size ≤ 1000000000000) (b : Int) : Is (f20_largeint_Parse s b) (parseR s b) := by
  intro wb
  unfold f20_largeint_Parse parseR
  have hml : maxLen = 9223372036854775807 := by decide
  have C := Cx.nil No wb
  repeat first
    | with_reducible refine ok_assoc ?_
    | with_reducible refine ok_retB ?_
    | (with_reducible refine ah_newC ?_; refine ok_newL C fun bq w C => ?_)
    | (with_reducible refine ah_ord ?_; refine ok_ordL C fun oq w C => ?_)
    | (with_reducible refine ah_draw ?_; refine ok_drawL C fun w C => ?_)
    | (with_reducible refine ah_ldA ?_; first | refine w_ldA1 C ?_ | refine w_ldA2 C ?_)
    | (with_reducible refine ah_ldA3 ?_; refine w_ldA3 C ?_)
    | (with_reducible refine ah_ldA4 ?_; refine w_ldA4 C ?_)
    | (with_reducible refine ah_chA ?_; first | refine w_chA1 C ?_ | refine w_chA2 C ?_)
    | (with_reducible refine ah_chA3 ?_; refine w_chA3 C ?_)
    | (with_reducible refine ah_wrA ?_; refine w_wrA1 C fun w C => ?_)
  obtain ⟨b1, hb1⟩ : ∃ b1, b1 = bq := ⟨bq, rfl⟩
  subst hb1
  by_cases hf : b < 2 ∨ 36 < b
  · rw [if_pos hf]
    refine ok_true ?_ ?_
    · by_cases h1 : b < 2
      · simp [h1]
      · simp [h1]; omega
    repeat first
      | with_reducible refine ok_assoc ?_
      | with_reducible refine ok_retB ?_
      | (with_reducible refine ah_newC ?_; refine ok_newL C fun bq w C => ?_)
      | (with_reducible refine ah_ord ?_; refine ok_ordL C fun oq w C => ?_)
      | (with_reducible refine ah_draw ?_; refine ok_drawL C fun w C => ?_)
      | (with_reducible refine ah_ldA ?_; first | refine w_ldA1 C ?_ | refine w_ldA2 C ?_)
      | (with_reducible refine ah_ldA3 ?_; refine w_ldA3 C ?_)
      | (with_reducible refine ah_ldA4 ?_; refine w_ldA4 C ?_)
      | (with_reducible refine ah_chA ?_; first | refine w_chA1 C ?_ | refine w_chA2 C ?_)
      | (with_reducible refine ah_chA3 ?_; refine w_chA3 C ?_)
      | (with_reducible refine ah_wrA ?_; refine w_wrA1 C fun w C => ?_)
    exact ok_ret.2 ⟨C.below, rfl⟩
  rw [if_neg hf]
  refine ok_false (by simp only [show ¬ b < 2 by omega, decide_false, cond_false, gt_iff_lt, decide_eq_false_iff_not]; omega) ?_
  obtain ⟨n0, hbn⟩ : ∃ n0 : Nat, b = n0 := ⟨b.toNat, by omega⟩
  subst hbn
  have hb2 : 2 ≤ n0 := by omega
  have hb36 : n0 ≤ 36 := by omega
  rw [Int.toNat_natCast]
  -- the sign
  refine ok_bnd.2 (ok_mono (Q := fun t w' => w' = w ∧ t = pneg (bl s)) ?_ ?_)
  · by_cases h0 : 0 < s.size
    · refine ok_true (by simp only [gt_iff_lt, decide_eq_true_eq]; omega) ?_
      obtain ⟨x, hx⟩ := get_some (l := bl s) (i := 0) (by rw [bl_length]; omega)
      refine ok_ixB (by omega) hx (ok_ret.2 ⟨rfl, ?_⟩)
      unfold pneg
      rw [List.head?_eq_getElem?, hx, Bool.eq_iff_iff, beq_iff_eq, decide_eq_true_eq, Option.some.injEq]
    · refine ok_false (by simp only [gt_iff_lt, decide_eq_false_iff_not]; omega) (ok_ret.2 ⟨rfl, ?_⟩)
      have : bl s = [] := List.eq_nil_of_length_eq_zero (by rw [bl_length]; omega)
      rw [this]; rfl
  rintro _ w ⟨rfl, rfl⟩
  refine ok_bnd.2 (ok_mono (Q := fun t w' => w' = w ∧ bl t = pbody (bl s)) ?_ ?_)
  · unfold pbody
    by_cases hn : pneg (bl s) = true
    · rw [if_pos hn]
      have h0 : 0 < s.size := by
        unfold pneg at hn
        rw [decide_eq_true_eq] at hn
        cases hs : bl s with
        | nil => rw [hs] at hn; cases hn
        | cons x l => have := bl_length s; rw [hs] at this; simp at this; omega
      refine ok_true hn (ok_slcS (by simp) (by simp; omega) (by simp) (ok_ret.2 ⟨rfl, ?_⟩))
      simp only [Option.getD_some, Option.getD_none, Int.toNat_natCast]
      rw [bl_extract, List.take_of_length_le (by rw [bl_length]; exact Nat.le_refl _)]
      simp
    · rw [if_neg hn]
      rw [Bool.not_eq_true] at hn
      exact ok_false hn (ok_ret.2 ⟨rfl, rfl⟩)
  rintro t w ⟨rfl, ht⟩
  have htl : (bl t).length = t.size := bl_length t
  have hsl : (bl s).length = s.size := bl_length s
  have htsz : t.size ≤ 1000000000000 := by
    rw [← htl, ht]
    unfold pbody
    split
    · rw [List.length_tail]; omega
    · omega
  -- what can not be a number
  refine ok_bnd.2 (ok_mono (Q := fun x w' => w' = w ∧ x = decide (pbad1 (bl s))) ?_ ?_)
  · rw [strEq_eq]
    by_cases h0 : t = ByteArray.mk #[]
    · refine ok_true (by simpa using h0) (ok_ret.2 ⟨rfl, ?_⟩)
      symm; rw [decide_eq_true_eq]
      left; rw [← ht, h0]; rfl
    · refine ok_false (by simpa using h0) ?_
      have hne : bl t ≠ [] := fun h => h0 (bl_inj (h.trans bl_nil.symm))
      have hpos : 0 < (bl t).length := List.length_pos_iff.2 hne
      obtain ⟨x, hx⟩ := get_some (l := bl t) (i := 0) hpos
      refine ok_ixB (by omega) hx (ok_ret.2 ⟨rfl, ?_⟩)
      rw [strEq_eq]
      have h48 : (t = ByteArray.mk #[48]) ↔ bl t = [48] := ⟨fun h => by rw [h]; rfl, fun h => bl_inj (h.trans (by rfl))⟩
      have hhd : (bl t).head? = some x := by rw [List.head?_eq_getElem?]; exact hx
      rw [Bool.eq_iff_iff, decide_eq_true_eq]
      unfold pbad1
      rw [← ht, hhd]
      by_cases h1 : x = 48
      · subst h1
        by_cases h2 : pneg (bl s) = true
        · simp [h2]
        · simp [h2, hne, h48]
      · have : (x == 48) = false := by simpa using h1
        simp [this, hne, h1]
  rintro _ w ⟨rfl, rfl⟩
  by_cases hbad : pbad1 (bl s)
  · refine ok_true (by simpa using hbad) ?_
    rw [if_pos (.inl hbad)]
    repeat first
      | with_reducible refine ok_assoc ?_
      | with_reducible refine ok_retB ?_
      | (with_reducible refine ah_newC ?_; refine ok_newL C fun bq w C => ?_)
      | (with_reducible refine ah_ord ?_; refine ok_ordL C fun oq w C => ?_)
      | (with_reducible refine ah_draw ?_; refine ok_drawL C fun w C => ?_)
      | (with_reducible refine ah_ldA ?_; first | refine w_ldA1 C ?_ | refine w_ldA2 C ?_)
      | (with_reducible refine ah_ldA3 ?_; refine w_ldA3 C ?_)
      | (with_reducible refine ah_ldA4 ?_; refine w_ldA4 C ?_)
      | (with_reducible refine ah_chA ?_; first | refine w_chA1 C ?_ | refine w_chA2 C ?_)
      | (with_reducible refine ah_chA3 ?_; refine w_chA3 C ?_)
      | (with_reducible refine ah_wrA ?_; refine w_wrA1 C fun w C => ?_)
    exact ok_ret.2 ⟨C.below, rfl⟩
  refine ok_false (by simpa using hbad) ?_
  -- the digits
  refine ok_slcS (by simp) (by simp) (by simp; exact hb36) ?_
  simp only [Option.getD_some, Option.getD_none, Int.toNat_natCast, Int.toNat_zero]
  have hdig : bl (digB.extract 0 n0) = (bl digB).take n0 := by
    rw [bl_extract, List.drop_zero]
  have hdsz : (digB.extract 0 n0).size ≤ 36 := by
    rw [← bl_length, hdig, List.length_take]; omega
  refine ok_toBytes (s := digB.extract 0 n0) C und9 slt61.under und5 (by omega) fun v11 w C hvl => ?_
  rw [hdig] at C
  have hv11 : v11.len ≤ 36 := by omega
  refine ok_loop (fun (q : Int) w' => Cx No wb w' [.own v11 (nums .u8 ((bl digB).take n0)), .cells b1 [.bool false, .string (ByteArray.mk #[])]] ∧ ∃ i : Nat, q = i ∧ i ≤ t.size ∧ ∀ c ∈ (bl t).take i, okc n0 c)
    (fun q _ => (t.size - q).toNat) ?_ _ _ ⟨C, 0, rfl, Nat.zero_le _, by simp⟩
  clear C
  rintro q w ⟨C, i, rfl, hi, hok⟩
  by_cases hlt : i < t.size
  · refine ok_true (by simp only [decide_eq_true_eq]; omega) ?_
    obtain ⟨c, hc⟩ := get_some (l := bl t) (i := i) (by omega)
    refine ok_ixB (by omega) (by rw [Int.toNat_natCast]; exact hc) ?_
    refine ok_bnd.2 (ok_mono (contains_spec (x := c) (C.arr (i := 0) (xs := nums .u8 ((bl digB).take n0)) rfl) (by omega)) ?_)
    rintro _ w ⟨rfl, rfl⟩
    by_cases hcm : okc n0 c
    · refine ok_false (by simp [dig_mem hb36, hcm]) (ok_ret.2 ⟨⟨C, i + 1, by rw [wrapI_in (by omega)]; simp, hlt, ?_⟩, by rw [wrapI_in (by omega)]; omega⟩)
      intro x hx
      rw [List.take_add_one, hc, Option.toList_some, List.mem_append, List.mem_singleton] at hx
      rcases hx with hx | rfl
      · exact hok x hx
      · exact hcm
    · refine ok_true (by simp [dig_mem hb36, hcm]) ?_
      rw [if_pos (.inr ⟨c, by rw [← ht]; exact List.mem_of_getElem? hc, hcm⟩)]
      repeat first
        | with_reducible refine ok_assoc ?_
        | with_reducible refine ok_retB ?_
        | (with_reducible refine ah_newC ?_; refine ok_newL C fun bq w C => ?_)
        | (with_reducible refine ah_ord ?_; refine ok_ordL C fun oq w C => ?_)
        | (with_reducible refine ah_draw ?_; refine ok_drawL C fun w C => ?_)
        | (with_reducible refine ah_ldA ?_; first | refine w_ldA1 C ?_ | refine w_ldA2 C ?_)
        | (with_reducible refine ah_ldA3 ?_; refine w_ldA3 C ?_)
        | (with_reducible refine ah_ldA4 ?_; refine w_ldA4 C ?_)
        | (with_reducible refine ah_chA ?_; first | refine w_chA1 C ?_ | refine w_chA2 C ?_)
        | (with_reducible refine ah_chA3 ?_; refine w_chA3 C ?_)
        | (with_reducible refine ah_wrA ?_; refine w_wrA1 C fun w C => ?_)
      exact ok_ret.2 ⟨C.below, rfl⟩
  have hie : i = t.size := by omega
  subst hie
  rw [List.take_of_length_le (by omega)] at hok
  refine ok_false (by simp only [decide_eq_false_iff_not]; omega) ?_
  rw [if_neg (show ¬ pbad n0 (bl s) by
    rintro (h | ⟨c, hc, hn⟩)
    · exact hbad h
    · rw [← ht] at hc; exact hn (hok c hc)), ← ht]
  have hdw0 : dw (pv n0 ((bl t).take 0)) = [] := by unfold dw pv; rw [List.take_zero]; exact dgs_zero _
  replace C : Cx No wb w (.own ⟨none, 0, 0⟩ (nums .u32 (dw (pv n0 ((bl t).take 0)))) :: [.own v11 (nums .u8 ((bl digB).take n0)), .cells b1 [.bool false, .string (ByteArray.mk #[])]]) := by
    rw [hdw0]; exact C.addNil
  refine ok_bnd.2 ?_
  refine ok_mono (Q := fun r w' => Below wb.heap.size wb w' ∧ r = toldZ (sv (pneg (bl s)) (pv n0 (bl t)))) ?_ (fun _ _ h => ok_ret.2 h)
  refine ok_loop (fun (q : Sl × Int) w' => ∃ i : Nat, q.2 = i ∧ i ≤ t.size ∧ q.1.len ≤ 1024 ∧ Cx No wb w' (.own q.1 (nums .u32 (dw (pv n0 ((bl t).take i)))) :: [.own v11 (nums .u8 ((bl digB).take n0)), .cells b1 [.bool false, .string (ByteArray.mk #[])]]))
    (fun q _ => (t.size - q.2).toNat) ?_ _ _ ⟨0, rfl, Nat.zero_le _, Nat.zero_le _, C⟩
  clear C
  rintro ⟨x, q⟩ w ⟨i, rfl, hi, hxl, C⟩
  simp only at hxl C ⊢
  by_cases hlt : i < t.size
  · refine ok_true (by simp only [decide_eq_true_eq]; omega) ?_
    obtain ⟨c, hc⟩ := get_some (l := bl t) (i := i) (by omega)
    refine ok_ixB (by omega) (by rw [Int.toNat_natCast]; exact hc) ?_
    have hokc := hok c (List.mem_of_getElem? hc)
    refine ok_bnd.2 (ok_mono (index_spec (x := c) (C.arr (i := 1) (xs := nums .u8 ((bl digB).take n0)) rfl) (by omega)) ?_)
    rintro r w ⟨rfl, hr⟩
    have hr2 : r = cval c := by
      rcases hr with ⟨j, rfl, hj, _⟩ | ⟨rfl, hj⟩
      · exact dig_idx hb36 hj
      · exact absurd ((dig_mem hb36).2 hokc) hj
    have hc0 := hokc.1
    have hc1 := hokc.2
    have e1 : IntKind.wrap .u32 (n0 : Int) = (n0 : Int) := wrapU32_in ⟨by omega, by omega⟩
    have e2 : IntKind.wrap .u32 r = (((cval c).toNat : Nat) : Int) := by rw [hr2, wrapU32_in ⟨by omega, by omega⟩]; omega
    rw [e1, e2]
    refine step_ok C (by omega) (by omega) hb36 (by omega) fun y w C hy => ?_
    rw [← pv_take_succ hc] at C
    have hyl : y.len = (dw (pv n0 ((bl t).take (i + 1)))).length := by have := (C.arr (i := 0) (xs := nums .u32 (dw (pv n0 ((bl t).take (i + 1))))) rfl).1; simpa using this
    by_cases hbig : 1024 < y.len
    · refine ok_true (by simp only [gt_iff_lt, decide_eq_true_eq]; omega) ?_
      have htb : tooBig (pv n0 (bl t)) := by
        have h1 : tooBig (pv n0 ((bl t).take (i + 1))) := words_big (by unfold dw at hyl; rw [hyl] at hbig; exact hbig)
        have h2 := pv_le (b := n0) (by omega) (bl t) (i + 1)
        rw [tooBig_iff] at h1 ⊢
        omega
      have : toldZ (sv (pneg (bl s)) (pv n0 (bl t))) = (zr, 92) := by unfold toldZ; rw [sv_natAbs, if_pos htb]
      rw [this]
      repeat first
        | with_reducible refine ok_assoc ?_
        | with_reducible refine ok_retB ?_
        | (with_reducible refine ah_newC ?_; refine ok_newL C fun bq w C => ?_)
        | (with_reducible refine ah_ord ?_; refine ok_ordL C fun oq w C => ?_)
        | (with_reducible refine ah_draw ?_; refine ok_drawL C fun w C => ?_)
        | (with_reducible refine ah_ldA ?_; first | refine w_ldA1 C ?_ | refine w_ldA2 C ?_)
        | (with_reducible refine ah_ldA3 ?_; refine w_ldA3 C ?_)
        | (with_reducible refine ah_ldA4 ?_; refine w_ldA4 C ?_)
        | (with_reducible refine ah_chA ?_; first | refine w_chA1 C ?_ | refine w_chA2 C ?_)
        | (with_reducible refine ah_chA3 ?_; refine w_chA3 C ?_)
        | (with_reducible refine ah_wrA ?_; refine w_wrA1 C fun w C => ?_)
      exact ok_ret.2 ⟨C.below, rfl⟩
    · refine ok_false (by simp only [gt_iff_lt, decide_eq_false_iff_not]; omega) (ok_ret.2 ⟨⟨i + 1, ?_, hlt, by show y.len ≤ 1024; omega, C⟩, ?_⟩)
      · show IntKind.wrap .i64 ((i : Int) + 1) = _
        rw [wrapI_in (by omega)]; simp
      · show (_ - IntKind.wrap .i64 ((i : Int) + 1)).toNat < _
        rw [wrapI_in (by omega)]; omega
  have hie : i = t.size := by omega
  subst hie
  rw [List.take_of_length_le (by omega)] at C
  refine ok_false (by simp only [decide_eq_false_iff_not]; omega) ?_
  refine ok_bnd.2 ?_
  refine ok_callL C (told_spec (C.arr (i := 0) (xs := nums .u32 (dw (pv n0 (bl t)))) rfl) (dw_dg _) (by omega) _) (fun r w' h => h.1) ?_
  rintro y w3 ⟨_, hy⟩ C
  rw [vw_dw, Int.toNat_natCast] at hy
  subst hy
  repeat first
    | with_reducible refine ok_assoc ?_
    | with_reducible refine ok_retB ?_
    | (with_reducible refine ah_newC ?_; refine ok_newL C fun bq w C => ?_)
    | (with_reducible refine ah_ord ?_; refine ok_ordL C fun oq w C => ?_)
    | (with_reducible refine ah_draw ?_; refine ok_drawL C fun w C => ?_)
    | (with_reducible refine ah_ldA ?_; first | refine w_ldA1 C ?_ | refine w_ldA2 C ?_)
    | (with_reducible refine ah_ldA3 ?_; refine w_ldA3 C ?_)
    | (with_reducible refine ah_ldA4 ?_; refine w_ldA4 C ?_)
    | (with_reducible refine ah_chA ?_; first | refine w_chA1 C ?_ | refine w_chA2 C ?_)
    | (with_reducible refine ah_chA3 ?_; refine w_chA3 C ?_)
    | (with_reducible refine ah_wrA ?_; refine w_wrA1 C fun w C => ?_)
  exact ok_ret.2 (ok_ret.2 ⟨C.below, rfl⟩)
end Go.Proofs.Ytoekfjgikicclaa
