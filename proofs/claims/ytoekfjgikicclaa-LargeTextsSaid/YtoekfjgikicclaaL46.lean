/-
  Part of the proof: L46. It states what the functions do; no further condition.
-/
import Derived.Test.YtoekfjgikicclaaL40
set_option linter.unusedVariables false
set_option linter.unusedSimpArgs false
namespace Go.Proofs.Ytoekfjgikicclaa
set_option linter.unusedVariables false
open Go.Sh Go.RowKit
set_option maxRecDepth 100000
/-! ### The document's reading of a text, and its writing -/
theorem value_eq {c : Int} (h0 : 0 ≤ c) (h9 : c < 256) : Gf61_palaverref09_value c = cval c := by
  unfold Gf61_palaverref09_value cval
  by_cases h1 : 48 ≤ c ∧ c ≤ 57
  · rw [if_pos h1, show (cond (decide (c ≥ 48)) (decide (c ≤ 57)) false) = true by simp [h1], cond_true, wrap8_in (by omega), wrapI_in (by omega)]
  · rw [if_neg h1, show (cond (decide (c ≥ 48)) (decide (c ≤ 57)) false) = false by
      by_cases h2 : c ≥ 48
      · simp [h2]; omega
      · simp [h2], cond_false]
    by_cases h3 : 65 ≤ c ∧ c ≤ 90
    · rw [if_pos h3, show (cond (decide (c ≥ 65)) (decide (c ≤ 90)) false) = true by simp [h3], cond_true, wrap8_in (by omega), wrapI_in (n := c - 65) (by omega), wrapI_in (by omega)]
      omega
    · rw [if_neg h3, show (cond (decide (c ≥ 65)) (decide (c ≤ 90)) false) = false by
        by_cases h2 : c ≥ 65
        · simp [h2]; omega
        · simp [h2], cond_false]
theorem db_mono {n m : Nat} (h : m ≤ n) : (db m).length ≤ (db n).length := dgs_length h256 (Nat.lt_of_le_of_lt h (lt_dgs h256 n))
theorem rparse_is (s : ByteArray) (hs : s.size ≤ 1000000000000) (b : Int) : Is (f21_palaverref09_Parse s b) (parseR s b) := by
  intro wb
  unfold f21_palaverref09_Parse parseR
  have hml : maxLen = 9223372036854775807 := by decide
  have C := Cx.nil No wb
  refine ok_newL C fun b1 w C => ?_
  by_cases hf : b < 2 ∨ 36 < b
  · rw [if_pos hf]
    refine ok_true ?_ ?_
    · by_cases h1 : b < 2
      · simp [h1]
      · simp [h1]; omega
    repeat first
      | with_reducible refine ok_assoc ?_
      | with_reducible refine ok_retB ?_
      | (with_reducible refine ah_newC ?_; refine ok_newL C fun bq w C => ?_)
      | (with_reducible refine ah_ord ?_; refine ok_ordL C fun oq w C => ?_)
      | (with_reducible refine ah_draw ?_; refine ok_drawL C fun w C => ?_)
      | (with_reducible refine ah_ldA ?_; first | refine w_ldA1 C ?_ | refine w_ldA2 C ?_)
      | (with_reducible refine ah_ldA3 ?_; refine w_ldA3 C ?_)
      | (with_reducible refine ah_ldA4 ?_; refine w_ldA4 C ?_)
      | (with_reducible refine ah_chA ?_; first | refine w_chA1 C ?_ | refine w_chA2 C ?_)
      | (with_reducible refine ah_chA3 ?_; refine w_chA3 C ?_)
      | (with_reducible refine ah_wrA ?_; refine w_wrA1 C fun w C => ?_)
    exact ok_ret.2 ⟨C.below, rfl⟩
  rw [if_neg hf]
  refine ok_false (by simp only [show ¬ b < 2 by omega, decide_false, cond_false, gt_iff_lt, decide_eq_false_iff_not]; omega) ?_
  obtain ⟨n0, hbn⟩ : ∃ n0 : Nat, b = n0 := ⟨b.toNat, by omega⟩
  subst hbn
  have hb2 : 2 ≤ n0 := by omega
  have hb36 : n0 ≤ 36 := by omega
  rw [Int.toNat_natCast]
  -- the sign
  refine ok_bnd.2 (ok_mono (Q := fun t w' => w' = w ∧ t = pneg (bl s)) ?_ ?_)
  · by_cases h0 : 0 < s.size
    · refine ok_true (by simp only [gt_iff_lt, decide_eq_true_eq]; omega) ?_
      obtain ⟨x, hx⟩ := get_some (l := bl s) (i := 0) (by rw [bl_length]; omega)
      refine ok_ixB (by omega) hx (ok_ret.2 ⟨rfl, ?_⟩)
      unfold pneg
      rw [List.head?_eq_getElem?, hx, Bool.eq_iff_iff, beq_iff_eq, decide_eq_true_eq, Option.some.injEq]
    · refine ok_false (by simp only [gt_iff_lt, decide_eq_false_iff_not]; omega) (ok_ret.2 ⟨rfl, ?_⟩)
      have : bl s = [] := List.eq_nil_of_length_eq_zero (by rw [bl_length]; omega)
      rw [this]; rfl
  rintro _ w ⟨rfl, rfl⟩
  refine ok_bnd.2 (ok_mono (Q := fun t w' => w' = w ∧ bl t = pbody (bl s)) ?_ ?_)
  · unfold pbody
    by_cases hn : pneg (bl s) = true
    · rw [if_pos hn]
      have h0 : 0 < s.size := by
        unfold pneg at hn
        rw [decide_eq_true_eq] at hn
        cases hs : bl s with
        | nil => rw [hs] at hn; cases hn
        | cons x l => have := bl_length s; rw [hs] at this; simp at this; omega
      refine ok_true hn (ok_slcS (by simp) (by simp; omega) (by simp) (ok_ret.2 ⟨rfl, ?_⟩))
      simp only [Option.getD_some, Option.getD_none, Int.toNat_natCast]
      rw [bl_extract, List.take_of_length_le (by rw [bl_length]; exact Nat.le_refl _)]
      simp
    · rw [if_neg hn]
      rw [Bool.not_eq_true] at hn
      exact ok_false hn (ok_ret.2 ⟨rfl, rfl⟩)
  rintro t w ⟨rfl, ht⟩
  have htl : (bl t).length = t.size := bl_length t
  have hsl : (bl s).length = s.size := bl_length s
  have htsz : t.size ≤ 1000000000000 := by
    rw [← htl, ht]
    unfold pbody
    split
    · rw [List.length_tail]; omega
    · omega
  -- what can not be a number
  refine ok_bnd.2 (ok_mono (Q := fun x w' => w' = w ∧ x = decide (pbad1 (bl s))) ?_ ?_)
  · by_cases h0 : t.size = 0
    · refine ok_true (by simp [h0]) (ok_ret.2 ⟨rfl, ?_⟩)
      symm; rw [decide_eq_true_eq]
      left; rw [← ht]; exact List.eq_nil_of_length_eq_zero (by omega)
    · refine ok_false (by simpa using h0) ?_
      have hne : bl t ≠ [] := fun h => h0 (by rw [← htl, h]; rfl)
      obtain ⟨x, hx⟩ := get_some (l := bl t) (i := 0) (by omega)
      refine ok_ixB (by omega) hx (ok_ret.2 ⟨rfl, ?_⟩)
      have h48 : bl t = [48] ↔ x = 48 ∧ t.size = 1 := by
        constructor
        · intro h
          rw [← htl]
          rw [h] at hx ⊢
          exact ⟨(Option.some.inj hx).symm, rfl⟩
        · rintro ⟨rfl, h⟩
          obtain ⟨y, hy⟩ := List.length_eq_one_iff.1 (htl.trans h)
          rw [hy] at hx ⊢
          rw [Option.some.inj hx]
      have hhd : (bl t).head? = some x := by rw [List.head?_eq_getElem?]; exact hx
      rw [Bool.eq_iff_iff, decide_eq_true_eq]
      unfold pbad1
      rw [← ht, hhd]
      by_cases h1 : x = 48
      · subst h1
        by_cases h2 : pneg (bl s) = true
        · simp [h2]
        · simp [h2, hne, h48]; omega
      · have : (x == 48) = false := by simpa using h1
        simp [this, hne, h1]
  rintro _ w ⟨rfl, rfl⟩
  by_cases hbad : pbad1 (bl s)
  · refine ok_true (by simpa using hbad) ?_
    rw [if_pos (.inl hbad)]
    repeat first
      | with_reducible refine ok_assoc ?_
      | with_reducible refine ok_retB ?_
      | (with_reducible refine ah_newC ?_; refine ok_newL C fun bq w C => ?_)
      | (with_reducible refine ah_ord ?_; refine ok_ordL C fun oq w C => ?_)
      | (with_reducible refine ah_draw ?_; refine ok_drawL C fun w C => ?_)
      | (with_reducible refine ah_ldA ?_; first | refine w_ldA1 C ?_ | refine w_ldA2 C ?_)
      | (with_reducible refine ah_ldA3 ?_; refine w_ldA3 C ?_)
      | (with_reducible refine ah_ldA4 ?_; refine w_ldA4 C ?_)
      | (with_reducible refine ah_chA ?_; first | refine w_chA1 C ?_ | refine w_chA2 C ?_)
      | (with_reducible refine ah_chA3 ?_; refine w_chA3 C ?_)
      | (with_reducible refine ah_wrA ?_; refine w_wrA1 C fun w C => ?_)
    exact ok_ret.2 ⟨C.below, rfl⟩
  refine ok_false (by simpa using hbad) ?_
  -- the digits
  refine ok_loop (fun (q : Int) w' => Cx No wb w' [.cells b1 [.bool false, .string (ByteArray.mk #[])]] ∧ ∃ i : Nat, q = i ∧ i ≤ t.size ∧ ∀ c ∈ (bl t).take i, okc n0 c)
    (fun q _ => (t.size - q).toNat) ?_ _ _ ⟨C, 0, rfl, Nat.zero_le _, by simp⟩
  clear C
  rintro q w ⟨C, i, rfl, hi, hok⟩
  by_cases hlt : i < t.size
  · refine ok_true (by simp only [decide_eq_true_eq]; omega) ?_
    obtain ⟨c, hc⟩ := get_some (l := bl t) (i := i) (by omega)
    have hcr := (dg_bl t).get hc
    refine ok_ixB (by omega) (by rw [Int.toNat_natCast]; exact hc) ?_
    rw [value_eq hcr.1 hcr.2]
    by_cases hcm : okc n0 c
    · have hc1 := hcm.1
      have hc2 := hcm.2
      refine ok_false (by simp only [show ¬ cval c < 0 by omega, decide_false, cond_false, ge_iff_le, decide_eq_false_iff_not]; omega) (ok_ret.2 ⟨⟨C, i + 1, by rw [wrapI_in (by omega)]; simp, hlt, ?_⟩, by rw [wrapI_in (by omega)]; omega⟩)
      intro x hx
      rw [List.take_add_one, hc, Option.toList_some, List.mem_append, List.mem_singleton] at hx
      rcases hx with hx | rfl
      · exact hok x hx
      · exact hcm
    · refine ok_true ?_ ?_
      · by_cases h1 : cval c < 0
        · simp [h1]
        · have : (n0 : Int) ≤ cval c := by
            rcases Int.lt_or_le (cval c) n0 with h | h
            · exact absurd ⟨by omega, h⟩ hcm
            · exact h
          simp [this]
      rw [if_pos (.inr ⟨c, by rw [← ht]; exact List.mem_of_getElem? hc, hcm⟩)]
      repeat first
        | with_reducible refine ok_assoc ?_
        | with_reducible refine ok_retB ?_
        | (with_reducible refine ah_newC ?_; refine ok_newL C fun bq w C => ?_)
        | (with_reducible refine ah_ord ?_; refine ok_ordL C fun oq w C => ?_)
        | (with_reducible refine ah_draw ?_; refine ok_drawL C fun w C => ?_)
        | (with_reducible refine ah_ldA ?_; first | refine w_ldA1 C ?_ | refine w_ldA2 C ?_)
        | (with_reducible refine ah_ldA3 ?_; refine w_ldA3 C ?_)
        | (with_reducible refine ah_ldA4 ?_; refine w_ldA4 C ?_)
        | (with_reducible refine ah_chA ?_; first | refine w_chA1 C ?_ | refine w_chA2 C ?_)
        | (with_reducible refine ah_chA3 ?_; refine w_chA3 C ?_)
        | (with_reducible refine ah_wrA ?_; refine w_wrA1 C fun w C => ?_)
      exact ok_ret.2 ⟨C.below, rfl⟩
  have hie : i = t.size := by omega
  subst hie
  rw [List.take_of_length_le (by omega)] at hok
  refine ok_false (by simp only [decide_eq_false_iff_not]; omega) ?_
  rw [if_neg (show ¬ pbad n0 (bl s) by
    rintro (h | ⟨c, hc, hn⟩)
    · exact hbad h
    · rw [← ht] at hc; exact hn (hok c hc)), ← ht]
  have hdw0 : db (pv n0 ((bl t).take 0)) = [] := by unfold db pv; rw [List.take_zero]; exact dgs_zero _
  replace C : Cx No wb w (.own ⟨none, 0, 0⟩ (nums .u8 (db (pv n0 ((bl t).take 0)))) :: [.cells b1 [.bool false, .string (ByteArray.mk #[])]]) := by
    rw [hdw0]; exact C.addNil
  refine ok_bnd.2 ?_
  refine ok_mono (Q := fun r w' => Below wb.heap.size wb w' ∧ r = toldZ (sv (pneg (bl s)) (pv n0 (bl t)))) ?_ (fun _ _ h => ok_ret.2 h)
  refine ok_loop (fun (q : Sl × Int) w' => ∃ i : Nat, q.2 = i ∧ i ≤ t.size ∧ q.1.len ≤ 4096 ∧ Cx No wb w' (.own q.1 (nums .u8 (db (pv n0 ((bl t).take i)))) :: [.cells b1 [.bool false, .string (ByteArray.mk #[])]]))
    (fun q _ => (t.size - q.2).toNat) ?_ _ _ ⟨0, rfl, Nat.zero_le _, Nat.zero_le _, C⟩
  clear C
  rintro ⟨x, q⟩ w ⟨i, rfl, hi, hxl, C⟩
  simp only at hxl C ⊢
  by_cases hlt : i < t.size
  rotate_left
  · have hie : i = t.size := by omega
    subst hie
    rw [List.take_of_length_le (by omega)] at C
    refine ok_false (by simp only [decide_eq_false_iff_not]; omega) ?_
    refine ok_bnd.2 ?_
    refine ok_callL C (made_spec (l := db (pv n0 (bl t))) (C.arr (i := 0) rfl) (dg_dgs h256 _) _) (fun r w' h => h.1) ?_
    rintro y w3 ⟨_, hy⟩ C
    rw [v8_db] at hy
    subst hy
    repeat first
      | with_reducible refine ok_assoc ?_
      | with_reducible refine ok_retB ?_
      | (with_reducible refine ah_newC ?_; refine ok_newL C fun bq w C => ?_)
      | (with_reducible refine ah_ord ?_; refine ok_ordL C fun oq w C => ?_)
      | (with_reducible refine ah_draw ?_; refine ok_drawL C fun w C => ?_)
      | (with_reducible refine ah_ldA ?_; first | refine w_ldA1 C ?_ | refine w_ldA2 C ?_)
      | (with_reducible refine ah_ldA3 ?_; refine w_ldA3 C ?_)
      | (with_reducible refine ah_ldA4 ?_; refine w_ldA4 C ?_)
      | (with_reducible refine ah_chA ?_; first | refine w_chA1 C ?_ | refine w_chA2 C ?_)
      | (with_reducible refine ah_chA3 ?_; refine w_chA3 C ?_)
      | (with_reducible refine ah_wrA ?_; refine w_wrA1 C fun w C => ?_)
    exact ok_ret.2 (ok_ret.2 ⟨C.below, rfl⟩)
  refine ok_true (by simp only [decide_eq_true_eq]; omega) ?_
  obtain ⟨c, hc⟩ := get_some (l := bl t) (i := i) (by omega)
  have hcr := (dg_bl t).get hc
  refine ok_ixB (by omega) (by rw [Int.toNat_natCast]; exact hc) ?_
  have hokc := hok c (List.mem_of_getElem? hc)
  rw [value_eq hcr.1 hcr.2]
  have hnx := pv_take_succ (b := n0) hc
  obtain ⟨d, hd⟩ : ∃ d : Nat, cval c = d := ⟨(cval c).toNat, by have := hokc.1; omega⟩
  have hd1 : d < n0 := by have := hokc.2; omega
  rw [hd] at hnx ⊢
  rw [Int.toNat_natCast] at hnx
  obtain ⟨m, hm⟩ : ∃ m, m = pv n0 ((bl t).take i) := ⟨_, rfl⟩
  rw [← hm] at C hnx
  have el : x.len = (db m).length := by have := (C.arr (i := 0) (xs := nums .u8 (db m)) rfl).1; simpa using this
  have dn : D8 (db m) := dg_dgs h256 _
  have vn : vl 256 (db m) = (m : Int) := vl_dgs h256 m
  refine ok_loop (fun (q : Int × Int) w' => ∃ out, Cx No wb w' (.own x (nums .u8 out) :: [.cells b1 [.bool false, .string (ByteArray.mk #[])]]) ∧ out.length = (db m).length ∧ D8 out ∧ 0 ≤ q.1 ∧ q.1 < 36 ∧ ∃ j : Nat, q.2 = j ∧ j ≤ (db m).length ∧ vl 256 (out.take j) + 256 ^ j * q.1 = vl 256 ((db m).take j) * n0 + d ∧ ∀ k, j ≤ k → out[k]? = (db m)[k]?)
    (fun q _ => ((db m).length - q.2).toNat) ?_ _ _ ⟨_, C, rfl, dn, by simp only; omega, by simp only; omega, 0, rfl, Nat.zero_le _, by simp [vl], fun _ _ => rfl⟩
  clear C
  rintro ⟨cr, q⟩ w3 ⟨out, C, hl, hdo, hc0, hc1, j, rfl, hj, hv, hs⟩
  simp only at hc0 hc1 hv ⊢
  by_cases hjt : j < (db m).length
  · refine ok_true (by simp only [decide_eq_true_eq]; omega) ?_
    obtain ⟨a, ha⟩ := get_some hjt
    have hoa : out[j]? = some a := (hs j (Nat.le_refl _)).trans ha
    have wa := dn.get ha
    have h1 := wa.1
    have h2 : a < 256 := wa.2
    obtain ⟨bk, hbk⟩ := own_block (C.get (i := 0) rfl) (n := j) (by omega)
    refine ok_ixO hbk (by omega) (by omega) ?_
    rw [Int.toNat_natCast]
    refine ok_ldO C (i := 0) rfl hbk hoa ?_
    refine ok_ixO hbk (by omega) (by omega) ?_
    rw [Int.toNat_natCast]
    have hm0 : 0 ≤ a * (n0 : Int) := Int.mul_nonneg h1 (by omega)
    have hm1 : a * (n0 : Int) ≤ 255 * 36 := Int.mul_le_mul (by omega) (by omega) (by omega) (by decide)
    have e1 : IntKind.wrap .i64 (IntKind.wrap .i64 (IntKind.wrap .i64 a * (n0 : Int)) + cr) = a * n0 + cr := by rw [wrapI_in (n := a) (by omega), wrapI_in (n := a * n0) (by omega), wrapI_in (by omega)]
    rw [e1, Int.tmod_eq_emod_of_nonneg (by omega), Int.tdiv_eq_ediv_of_nonneg (by omega), wrap8_in (n := (a * (n0 : Int) + cr) % 256) (by omega), wrapI_in (n := (a * (n0 : Int) + cr) / 256) (by omega)]
    refine ok_wrO C (i := 0) rfl hbk (by omega) fun w5 C5 => ok_ret.2 ⟨⟨_, C5, by simp [hl], hdo.set _ (Int.emod_nonneg _ (by decide)) (Int.emod_lt_of_pos _ (by decide)), ?_, ?_, j + 1, ?_, hjt, ?_, ?_⟩, ?_⟩
    · show 0 ≤ (a * (n0 : Int) + cr) / 256
      omega
    · show (a * (n0 : Int) + cr) / 256 < 36
      omega
    · show IntKind.wrap .i64 ((j : Int) + 1) = _
      rw [wrapI_in (by omega)]; simp
    · show _ + _ * ((a * (n0 : Int) + cr) / 256) = _
      rw [vl_take_set (by omega), vl_take_succ ha, Int.pow_succ]
      have q2 := Int.emod_add_mul_ediv (a * (n0 : Int) + cr) 256
      generalize (a * (n0 : Int) + cr) % 256 = A3 at *
      generalize (a * (n0 : Int) + cr) / 256 = A4 at *
      grind
    · intro k hk
      rw [List.getElem?_set_ne (by omega)]
      exact hs k (by omega)
    · show (_ - IntKind.wrap .i64 ((j : Int) + 1)).toNat < _
      rw [wrapI_in (by omega)]; omega
  have hje : j = (db m).length := by omega
  subst hje
  refine ok_false (by simp only [decide_eq_false_iff_not]; omega) ?_
  rw [List.take_of_length_le (by omega), List.take_of_length_le (Nat.le_refl _), vn] at hv
  have hvo : vl 256 out + 256 ^ (db m).length * cr = ((m * n0 + d : Nat) : Int) := by
    rw [hv]; simp
  refine ok_bnd.2 (ok_bnd.2 (ok_mono (Q := fun y w' => Cx No wb w' (.own y (nums .u8 (db (m * n0 + d))) :: [.cells b1 [.bool false, .string (ByteArray.mk #[])]])) ?_ ?_))
  · by_cases hcp : 0 < cr
    · refine ok_true (by simpa using hcp) ?_
      rw [wrap8_in (n := cr) ⟨hc0, by omega⟩]
      refine ok_push1 slt61 C (i := 0) (s := x) rfl (nums_one _) _ rfl rfl (by omega) (by omega) fun r w' C2 hr => ok_ret.2 ?_
      rw [nums_snoc] at C2
      have hval : vl 256 (out ++ [cr]) = ((m * n0 + d : Nat) : Int) := by rw [vl_concat, hl]; exact hvo
      have hdd : D8 (out ++ [cr]) := hdo.append (Dg.cons Dg.nil hc0 (by omega))
      have hcn : Cn (out ++ [cr]) := by unfold Cn; simp; omega
      have := dgs_vl h256 hdd hcn
      rw [show ((256 : Nat) : Int) = 256 from rfl, hval, Int.toNat_natCast] at this
      unfold db
      rw [this]
      exact C2
    · have hc' : cr = 0 := by omega
      subst hc'
      rw [Int.mul_zero, Int.add_zero] at hvo
      refine ok_false (by simp) (ok_ret.2 ?_)
      have h1 := vl_lt (b := 256) (by decide) hdo
      rw [hl, hvo] at h1
      have h2 : m * n0 + d < 256 ^ (db m).length := by exact_mod_cast h1
      have h3 : (db (m * n0 + d)).length ≤ (db m).length := dgs_length h256 h2
      have h4 : (db m).length ≤ (db (m * n0 + d)).length := db_mono (Nat.le_trans (Nat.le_mul_of_pos_right m (by omega)) (Nat.le_add_right _ _))
      have : out = db (m * n0 + d) := vl_inj (b := 256) (by decide) hdo (dg_dgs h256 _) (by show out.length = (db (m * n0 + d)).length; omega) (by rw [hvo]; exact (vl_dgs h256 _).symm)
      rw [← this]
      exact C
  rintro y w4 C
  have hyl : y.len = (db (m * n0 + d)).length := by have := (C.arr (i := 0) (xs := nums .u8 (db (m * n0 + d))) rfl).1; simpa using this
  rw [← hnx] at C hyl
  by_cases hbig : 4096 < y.len
  · refine ok_true (by simp only [gt_iff_lt, decide_eq_true_eq]; omega) ?_
    have htb : tooBig (pv n0 (bl t)) := by
      have h1 : tooBig (pv n0 ((bl t).take (i + 1))) := by unfold tooBig; omega
      have h2 := pv_le (b := n0) (by omega) (bl t) (i + 1)
      rw [tooBig_iff] at h1 ⊢
      omega
    have : toldZ (sv (pneg (bl s)) (pv n0 (bl t))) = (zr, 92) := by unfold toldZ; rw [sv_natAbs, if_pos htb]
    rw [this]
    repeat first
      | with_reducible refine ok_assoc ?_
      | with_reducible refine ok_retB ?_
      | (with_reducible refine ah_newC ?_; refine ok_newL C fun bq w C => ?_)
      | (with_reducible refine ah_ord ?_; refine ok_ordL C fun oq w C => ?_)
      | (with_reducible refine ah_draw ?_; refine ok_drawL C fun w C => ?_)
      | (with_reducible refine ah_ldA ?_; first | refine w_ldA1 C ?_ | refine w_ldA2 C ?_)
      | (with_reducible refine ah_ldA3 ?_; refine w_ldA3 C ?_)
      | (with_reducible refine ah_ldA4 ?_; refine w_ldA4 C ?_)
      | (with_reducible refine ah_chA ?_; first | refine w_chA1 C ?_ | refine w_chA2 C ?_)
      | (with_reducible refine ah_chA3 ?_; refine w_chA3 C ?_)
      | (with_reducible refine ah_wrA ?_; refine w_wrA1 C fun w C => ?_)
    exact ok_ret.2 (ok_ret.2 ⟨C.below, rfl⟩)
  · refine ok_false (by simp only [gt_iff_lt, decide_eq_false_iff_not]; omega) (ok_ret.2 (ok_ret.2 ⟨⟨i + 1, ?_, hlt, by show y.len ≤ 4096; omega, C⟩, ?_⟩))
    · show IntKind.wrap .i64 ((i : Int) + 1) = _
      rw [wrapI_in (by omega)]; simp
    · show (_ - IntKind.wrap .i64 ((i : Int) + 1)).toNat < _
      rw [wrapI_in (by omega)]; omega
theorem rtext_is (a : Lg) (b : Int) : Is (f23_palaverref09_Text a b) (textR a b) := by
  intro wb
  unfold f23_palaverref09_Text textR
  have hml : maxLen = 9223372036854775807 := by decide
  have C := Cx.nil No wb
  refine ok_newL C fun b1 w C => ?_
  repeat first
    | with_reducible refine ok_assoc ?_
    | with_reducible refine ok_retB ?_
    | with_reducible refine ok_is C (rcheck_is _) fun w C => ?_
    | (with_reducible refine ah_newC ?_; refine ok_newL C fun bq w C => ?_)
    | (with_reducible refine ah_ord ?_; refine ok_ordL C fun oq w C => ?_)
    | (with_reducible refine ah_draw ?_; refine ok_drawL C fun w C => ?_)
    | (with_reducible refine ah_ldA ?_; first | refine w_ldA1 C ?_ | refine w_ldA2 C ?_)
    | (with_reducible refine ah_ldA3 ?_; refine w_ldA3 C ?_)
    | (with_reducible refine ah_ldA4 ?_; refine w_ldA4 C ?_)
    | (with_reducible refine ah_chA ?_; first | refine w_chA1 C ?_ | refine w_chA2 C ?_)
    | (with_reducible refine ah_chA3 ?_; refine w_chA3 C ?_)
    | (with_reducible refine ah_wrA ?_; refine w_wrA1 C fun w C => ?_)
  by_cases h : ck a = 0
  rotate_left
  · rw [if_neg h]
    exact ok_true (by simpa using h) (ok_ret.2 ⟨C.below, rfl⟩)
  rw [if_pos h]
  refine ok_false (by rw [h]; rfl) ?_
  by_cases hf : b < 2 ∨ 36 < b
  · rw [if_pos hf]
    refine ok_true ?_ (ok_ret.2 ⟨C.below, rfl⟩)
    by_cases h1 : b < 2
    · simp [h1]
    · simp [h1]; omega
  rw [if_neg hf]
  refine ok_false (by simp only [show ¬ b < 2 by omega, decide_false, cond_false, gt_iff_lt, decide_eq_false_iff_not]; omega) ?_
  obtain ⟨n0, hbn⟩ : ∃ n0 : Nat, b = n0 := ⟨b.toNat, by omega⟩
  subst hbn
  have hb2 : 2 ≤ n0 := by omega
  have hb36 : n0 ≤ 36 := by omega
  obtain ⟨z, rfl, hz⟩ := ck_ex h
  have lz := tb_len hz
  rw [iv_lg, Int.toNat_natCast]
  repeat first
    | with_reducible refine ok_assoc ?_
    | with_reducible refine ok_retB ?_
    | (with_reducible refine ah_newC ?_; refine ok_newL C fun bq w C => ?_)
    | (with_reducible refine ah_ord ?_; refine ok_ordL C fun oq w C => ?_)
    | (with_reducible refine ah_draw ?_; refine ok_drawL C fun w C => ?_)
    | (with_reducible refine ah_ldA ?_; first | refine w_ldA1 C ?_ | refine w_ldA2 C ?_)
    | (with_reducible refine ah_ldA3 ?_; refine w_ldA3 C ?_)
    | (with_reducible refine ah_ldA4 ?_; refine w_ldA4 C ?_)
    | (with_reducible refine ah_chA ?_; first | refine w_chA1 C ?_ | refine w_chA2 C ?_)
    | (with_reducible refine ah_chA3 ?_; refine w_chA3 C ?_)
    | (with_reducible refine ah_wrA ?_; refine w_wrA1 C fun w C => ?_)
  refine ok_toBytes C und9 slt61.under und5 (tb_max hz) fun vx w C hvx => ?_
  rw [bl_lg] at C
  have hdl : (dgs n0 z.natAbs).length ≤ 32768 := by
    have h1 : (dgs n0 z.natAbs).length ≤ 32 * (dw z.natAbs).length := dgs_len_words hb2 z.natAbs
    have h2 := tb_words hz
    omega
  replace C : Cx No wb w [.own ⟨none, 0, 0⟩ (nums .u8 (([] : List Int).map dch)), .own vx (nums .u8 (db z.natAbs)), .cells b1 [.bool (lg z).1, .string (lg z).2]] := C.addNil
  refine ok_loopN (fun N (q : Sl × Sl) w' => ∃ os, Cx No wb w' [.own q.2 (nums .u8 (os.map dch)), .own q.1 (nums .u8 (db N)), .cells b1 [.bool (lg z).1, .string (lg z).2]] ∧ os ++ dgs n0 N = dgs n0 z.natAbs ∧ N ≤ z.natAbs)
    ?_ z.natAbs _ _ ⟨[], C, rfl, Nat.le_refl _⟩
  clear C
  rintro N ⟨x, o⟩ w ⟨os, C, hos, hNz⟩
  simp only at C ⊢
  have hoe : o.len = os.length := by have := (C.get (i := 0) rfl).1; simpa using this
  have hxe : x.len = (db N).length := by have := (C.arr (i := 1) (xs := nums .u8 (db N)) rfl).1; simpa using this
  have hosl : os.length + (dgs n0 N).length = (dgs n0 z.natAbs).length := by rw [← hos]; simp
  have hxl : (db N).length ≤ 4096 := by have := db_mono hNz; omega
  have dn : D8 (db N) := dg_dgs h256 _
  have vn : vl 256 (db N) = (N : Int) := vl_dgs h256 N
  by_cases hN : N = 0
  rotate_left
  · have hpos : (db N).length ≠ 0 := fun h => hN (db_zero.1 h)
    refine ok_true (by simp only [gt_iff_lt, decide_eq_true_eq]; omega) ?_
    have e0 : IntKind.wrap .i64 ((x.len : Int) - 1) = ((db N).length : Int) - 1 := by rw [wrapI_in (by omega)]; omega
    rw [e0]
    refine ok_loop (fun (q : Int × Int) w' => ∃ out, Cx No wb w' [.own o (nums .u8 (os.map dch)), .own x (nums .u8 out), .cells b1 [.bool (lg z).1, .string (lg z).2]] ∧ out.length = (db N).length ∧ D8 out ∧ 0 ≤ q.1 ∧ q.1 < n0 ∧ ∃ j : Nat, q.2 = (j : Int) - 1 ∧ j ≤ (db N).length ∧ vl 256 ((db N).drop j) = n0 * vl 256 (out.drop j) + q.1 ∧ ∀ k, k < j → out[k]? = (db N)[k]?)
      (fun q _ => (q.2 + 1).toNat) ?_ _ _ ⟨db N, C, rfl, dn, Int.le_refl _, by simp only; omega, (db N).length, rfl, Nat.le_refl _, by rw [List.drop_of_length_le (Nat.le_refl _)]; simp [vl_nil], fun _ _ => rfl⟩
    clear C
    rintro ⟨cr, q⟩ w3 ⟨out, C, hl, hdo, hc0, hc1, j, rfl, hj, hv, hs⟩
    simp only at hc0 hc1 hv ⊢
    by_cases hj0 : j = 0
    rotate_left
    · obtain ⟨j, rfl⟩ : ∃ j', j = j' + 1 := ⟨j - 1, by omega⟩
      have e1 : ((j + 1 : Nat) : Int) - 1 = (j : Int) := by omega
      rw [e1]
      refine ok_true (by simp) ?_
      obtain ⟨a, ha⟩ := get_some (l := db N) (i := j) (by omega)
      have hoa : out[j]? = some a := (hs j (by omega)).trans ha
      have wa := dn.get ha
      have h1 := wa.1
      have h2 : a < 256 := wa.2
      have edr : (db N).drop j = a :: (db N).drop (j + 1) := by
        rw [List.drop_eq_getElem_cons (by omega)]
        rw [List.getElem?_eq_getElem (by omega), Option.some.injEq] at ha
        rw [ha]
      obtain ⟨bk, hbk⟩ := own_block (C.get (i := 1) rfl) (n := j) (by omega)
      refine ok_ixO hbk (by omega) (by omega) ?_
      rw [Int.toNat_natCast]
      refine ok_ldO C (i := 1) rfl hbk hoa ?_
      refine ok_bnd.2 (ok_nz.2 ⟨by omega, ?_⟩)
      refine ok_ixO hbk (by omega) (by omega) ?_
      rw [Int.toNat_natCast]
      have e2 : IntKind.wrap .i64 (IntKind.wrap .i64 (cr * 256) + IntKind.wrap .i64 a) = cr * 256 + a := by rw [wrapI_in (n := cr * 256) (by omega), wrapI_in (n := a) (by omega), wrapI_in (by omega)]
      have hq0 : 0 ≤ (cr * 256 + a) / (n0 : Int) := Int.ediv_nonneg (by omega) (by omega)
      have hq1 : (cr * 256 + a) / (n0 : Int) < 256 := Int.ediv_lt_of_lt_mul (by omega) (by omega)
      rw [e2, Int.tmod_eq_emod_of_nonneg (by omega), Int.tdiv_eq_ediv_of_nonneg (by omega), wrapI_in (n := (cr * 256 + a) / (n0 : Int)) (by omega), wrap8_in ⟨hq0, hq1⟩]
      refine ok_wrO C (i := 1) rfl hbk (by omega) fun w5 C5 => ok_bnd.2 (ok_nz.2 ⟨by omega, ok_ret.2 ⟨⟨_, C5, by simp [hl], hdo.set _ hq0 hq1, Int.emod_nonneg _ (by omega), Int.emod_lt_of_pos _ (by omega), j, ?_, by omega, ?_, ?_⟩, ?_⟩⟩)
      · show IntKind.wrap .i64 ((j : Int) - 1) = _
        rw [wrapI_in (by omega)]
      · show _ = _ + (cr * 256 + a) % (n0 : Int)
        have edo : (out.set j ((cr * 256 + a) / (n0 : Int))).drop j = (cr * 256 + a) / (n0 : Int) :: out.drop (j + 1) := by
          rw [List.drop_eq_getElem_cons (by rw [List.length_set]; omega), List.getElem_set_self, List.drop_set_of_lt (by omega)]
        rw [edr, edo, vl_cons, vl_cons, hv]
        have e3 := Int.emod_add_mul_ediv (cr * 256 + a) (n0 : Int)
        generalize (cr * 256 + a) % (n0 : Int) = A3 at *
        generalize (cr * 256 + a) / (n0 : Int) = A4 at *
        grind
      · intro k hk
        rw [List.getElem?_set_ne (by omega)]
        exact hs k (by omega)
      · show (IntKind.wrap .i64 ((j : Int) - 1) + 1).toNat < _
        rw [wrapI_in (by omega)]; omega
    subst hj0
    rw [List.drop_zero, List.drop_zero, vn] at hv
    refine ok_false (by simp) ?_
    have hq : vl 256 out = ((N / n0 : Nat) : Int) := by
      rw [Int.natCast_ediv, hv, Int.add_comm, Int.add_mul_ediv_left _ _ (by omega), Int.ediv_eq_zero_of_lt hc0 hc1, Int.zero_add]
    have hcr : cr = ((N % n0 : Nat) : Int) := by
      rw [Int.natCast_emod, hv, Int.add_comm, Int.add_mul_emod_self_left, Int.emod_eq_of_lt hc0 hc1]
    subst hcr
    have hrl : N % n0 < n0 := Nat.mod_lt _ (by omega)
    refine ok_bnd.2 (ok_ixB (by omega) (t := dch ((N % n0 : Nat) : Int)) (by rw [Int.toNat_natCast]; exact tab_at ⟨N % n0, by omega⟩) ?_)
    have hdz : dgs n0 N = ((N % n0 : Nat) : Int) :: dgs n0 (N / n0) := dgs_pos hb2 hN
    refine ok_push1 slt61 C (i := 0) (s := o) rfl (nums_one _) _ rfl rfl (by omega) (by omega) fun r w' C2 hr => ?_
    rw [nums_snoc] at C2
    refine ok_bnd.2 (ok_mono (rtrim_own (C2.get (i := 1) rfl) hdo) ?_)
    rintro y w5 ⟨rfl, hy, _, hya⟩
    rw [hq, Int.toNat_natCast] at hy
    have C3 := C2.recast (i := 1) (new := .own y (nums .u8 (db (N / n0)))) rfl hy (by simp [It.at_, hya])
    refine ok_ret.2 (ok_ret.2 ⟨N / n0, Nat.div_lt_self (by omega) (by omega), os ++ [((N % n0 : Nat) : Int)], ?_, ?_, ?_⟩)
    · rw [List.map_append]; exact C3
    · rw [List.append_assoc, ← hos, hdz]; rfl
    · exact Nat.le_trans (Nat.div_le_self _ _) hNz
  subst hN
  refine ok_false (by have : (db 0).length = 0 := db_zero.2 rfl; simp; omega) ?_
  rw [dgs_zero, List.append_nil] at hos
  subst hos
  refine ok_bnd.2 ?_
  by_cases hz0 : z = 0
  · refine ok_true (by rw [hz0, show (0 : Int).natAbs = 0 from rfl, dgs_zero] at hoe; simp at hoe ⊢; omega) (ok_ret.2 (ok_ret.2 ⟨C.below, ?_⟩))
    unfold txtL
    rw [if_pos hz0]; rfl
  have hz1 : z.natAbs ≠ 0 := by omega
  have hpos : (dgs n0 z.natAbs).length ≠ 0 := by rw [dgs_pos hb2 hz1]; simp
  refine ok_false (by simp; omega) ?_
  repeat first
    | with_reducible refine ok_assoc ?_
    | with_reducible refine ok_retB ?_
    | (with_reducible refine ah_newC ?_; refine ok_newL C fun bq w C => ?_)
    | (with_reducible refine ah_ord ?_; refine ok_ordL C fun oq w C => ?_)
    | (with_reducible refine ah_draw ?_; refine ok_drawL C fun w C => ?_)
    | (with_reducible refine ah_ldA ?_; first | refine w_ldA1 C ?_ | refine w_ldA2 C ?_)
    | (with_reducible refine ah_ldA3 ?_; refine w_ldA3 C ?_)
    | (with_reducible refine ah_ldA4 ?_; refine w_ldA4 C ?_)
    | (with_reducible refine ah_chA ?_; first | refine w_chA1 C ?_ | refine w_chA2 C ?_)
    | (with_reducible refine ah_chA3 ?_; refine w_chA3 C ?_)
    | (with_reducible refine ah_wrA ?_; refine w_wrA1 C fun w C => ?_)
  rw [lg_neg]
  have htx : txtL n0 z = ((dgs n0 z.natAbs).map dch ++ (if z < 0 then [45] else [])).reverse := by
    unfold txtL
    rw [if_neg hz0, List.reverse_append]
    by_cases h0 : z < 0 <;> simp [h0]
  have hEl : ((dgs n0 z.natAbs).map dch ++ (if z < 0 then [45] else [])).length ≤ 40000 := by
    rw [List.length_append, List.length_map]
    split <;> simp <;> omega
  have hEd : D8 ((dgs n0 z.natAbs).map dch ++ (if z < 0 then [45] else [])) := by
    intro x hx
    rw [List.mem_append] at hx
    rcases hx with hx | hx
    · exact dg_dch hb2 hb36 _ x hx
    · split at hx
      · rw [List.mem_singleton] at hx; subst hx; decide
      · cases hx
  refine ok_bnd.2 (ok_mono (Q := fun r w' => ∃ L, Cx No wb w' (.own r (nums .u8 ((dgs n0 z.natAbs).map dch ++ (if z < 0 then [45] else []))) :: L)) ?_ ?_)
  · by_cases hn : z < 0
    · rw [if_pos hn]
      refine ok_true (by simpa using hn) ?_
      refine ok_push1 slt61 C (i := 0) (s := o) (xs := nums .u8 ((dgs n0 z.natAbs).map dch)) rfl (nums_one _) (.int .u8 45) rfl rfl (by omega) (by omega) fun r w' C2 hr => ok_ret.2 ⟨[.own x (nums .u8 (db 0)), .cells b1 [.bool (lg z).1, .string (lg z).2]], ?_⟩
      rw [nums_snoc] at C2
      exact C2
    · rw [if_neg hn, List.append_nil]
      exact ok_false (by simpa using hn) (ok_ret.2 ⟨_, C⟩)
  clear C
  rintro r w ⟨L, C⟩
  rw [htx]
  clear htx
  generalize (dgs n0 z.natAbs).map dch ++ (if z < 0 then [45] else []) = E at *
  have hrl : r.len = E.length := by have := (C.get (i := 0) rfl).1; simpa using this
  -- turned about
  refine ok_loop (fun (q : Int) w' => ∃ c, Cx No wb w' (.own r (nums .u8 c) :: L) ∧ c.length = E.length ∧ ∃ i : Nat, q = i ∧ i ≤ E.length / 2 ∧ ∀ k, c[k]? = if k < i ∨ (E.length ≤ k + i ∧ k < E.length) then E.reverse[k]? else E[k]?)
    (fun q _ => ((E.length : Int) - q).toNat) ?_ _ _ ⟨E, C, rfl, 0, rfl, Nat.zero_le _, fun k => by rw [if_neg (by omega)]⟩
  clear C
  rintro q w3 ⟨c, C, hl, i, rfl, hi, hc⟩
  have e0 : IntKind.wrap .i64 (Int.tdiv (r.len : Int) 2) = ((E.length / 2 : Nat) : Int) := by rw [Int.tdiv_eq_ediv_of_nonneg (by omega), wrapI_in (by omega)]; omega
  rw [e0]
  by_cases hlt : i < E.length / 2
  · refine ok_true (by simp only [decide_eq_true_eq]; omega) ?_
    obtain ⟨j, hj⟩ : ∃ j : Nat, E.length = i + j + 1 := ⟨E.length - 1 - i, by omega⟩
    have e1 : IntKind.wrap .i64 (IntKind.wrap .i64 ((r.len : Int) - 1) - (i : Int)) = (j : Int) := by rw [wrapI_in (n := (r.len : Int) - 1) (by omega), wrapI_in (by omega)]; omega
    rw [e1]
    obtain ⟨x, hx⟩ := get_some (l := c) (i := i) (by omega)
    obtain ⟨y, hy⟩ := get_some (l := c) (i := j) (by omega)
    obtain ⟨bk, hb⟩ := own_block (C.get (i := 0) rfl) (n := i) (by omega)
    refine ok_get (C.arr (i := 0) (xs := nums .u8 c) rfl) (by omega) (n := x) (by rw [Int.toNat_natCast]; exact hx) ?_
    refine ok_get (C.arr (i := 0) (xs := nums .u8 c) rfl) (by omega) (n := y) (by rw [Int.toNat_natCast]; exact hy) ?_
    refine ok_ixO hb (by omega) (by omega) ?_
    rw [Int.toNat_natCast]
    refine ok_wrO C (i := 0) rfl hb (by omega) fun w5 C5 => ?_
    simp only [List.set_cons_zero] at C5
    refine ok_ixO hb (by omega) (by omega) ?_
    rw [Int.toNat_natCast]
    refine ok_wrO C5 (i := 0) rfl hb (by simp; omega) fun w6 C6 => ok_ret.2 ⟨⟨_, C6, by simp [hl], i + 1, ?_, by omega, fun k => ?_⟩, ?_⟩
    · rw [wrapI_in (by omega)]; simp
    · have hxi : x = E[i]'(by omega) := by
        have := hc i
        rw [if_neg (by omega), hx, List.getElem?_eq_getElem (by omega)] at this
        exact Option.some.inj this
      have hyj : y = E[j]'(by omega) := by
        have := hc j
        rw [if_neg (by omega), hy, List.getElem?_eq_getElem (by omega)] at this
        exact Option.some.inj this
      by_cases h1 : k = j
      · subst h1
        rw [List.getElem?_set_self (by simp; omega), if_pos (by omega), List.getElem?_reverse (by omega), hxi]
        rw [List.getElem?_eq_getElem (by omega)]
        congr 2; omega
      · rw [List.getElem?_set_ne (by omega)]
        by_cases h3 : k = i
        · subst h3
          rw [List.getElem?_set_self (by omega), if_pos (by omega), List.getElem?_reverse (by omega), hyj]
          rw [List.getElem?_eq_getElem (by omega)]
          congr 2; omega
        · rw [List.getElem?_set_ne (by omega), hc k]
          by_cases h4 : k < i ∨ (E.length ≤ k + i ∧ k < E.length)
          · rw [if_pos h4, if_pos (by omega)]
          · rw [if_neg h4, if_neg (by omega)]
    · rw [wrapI_in (by omega)]; omega
  have hce : c = E.reverse := by
    apply List.ext_getElem?
    intro k
    rw [hc k]
    split
    · rfl
    · by_cases hk : k < E.length
      · rw [List.getElem?_reverse hk]
        congr 1; omega
      · rw [List.getElem?_eq_none (by omega), List.getElem?_eq_none (by simp; omega)]
  subst hce
  refine ok_false (by simp only [decide_eq_false_iff_not]; omega) ?_
  refine ok_bnd.2 ?_
  refine ok_toStr slt61.under und5 und9 (C.arr (i := 0) rfl) (fun x hx => hEd x (List.mem_reverse.1 hx)) (ok_ret.2 (ok_ret.2 (ok_ret.2 ⟨C.below, rfl⟩)))
theorem far_ex3 (a b : Lg) : ∃ r, Is (f13_palaverlaw09_far a b) r := by
  refine ⟨decide (1048576 < a.2.size ∨ 1048576 < b.2.size), fun wb => ?_⟩
  unfold f13_palaverlaw09_far
  have C := Cx.nil No wb
  repeat first
    | with_reducible refine ok_assoc ?_
    | with_reducible refine ok_retB ?_
    | (with_reducible refine ah_newC ?_; refine ok_newL C fun bq w C => ?_)
    | (with_reducible refine ah_ord ?_; refine ok_ordL C fun oq w C => ?_)
    | (with_reducible refine ah_draw ?_; refine ok_drawL C fun w C => ?_)
    | (with_reducible refine ah_ldA ?_; first | refine w_ldA1 C ?_ | refine w_ldA2 C ?_)
    | (with_reducible refine ah_ldA3 ?_; refine w_ldA3 C ?_)
    | (with_reducible refine ah_ldA4 ?_; refine w_ldA4 C ?_)
    | (with_reducible refine ah_chA ?_; first | refine w_chA1 C ?_ | refine w_chA2 C ?_)
    | (with_reducible refine ah_chA3 ?_; refine w_chA3 C ?_)
    | (with_reducible refine ah_wrA ?_; refine w_wrA1 C fun w C => ?_)
  by_cases h : 1048576 < a.2.size
  · refine ok_tB (by simp only [gt_iff_lt, decide_eq_true_eq]; omega) ?_
    repeat first
      | with_reducible refine ok_assoc ?_
      | with_reducible refine ok_retB ?_
      | (with_reducible refine ah_newC ?_; refine ok_newL C fun bq w C => ?_)
      | (with_reducible refine ah_ord ?_; refine ok_ordL C fun oq w C => ?_)
      | (with_reducible refine ah_draw ?_; refine ok_drawL C fun w C => ?_)
      | (with_reducible refine ah_ldA ?_; first | refine w_ldA1 C ?_ | refine w_ldA2 C ?_)
      | (with_reducible refine ah_ldA3 ?_; refine w_ldA3 C ?_)
      | (with_reducible refine ah_ldA4 ?_; refine w_ldA4 C ?_)
      | (with_reducible refine ah_chA ?_; first | refine w_chA1 C ?_ | refine w_chA2 C ?_)
      | (with_reducible refine ah_chA3 ?_; refine w_chA3 C ?_)
      | (with_reducible refine ah_wrA ?_; refine w_wrA1 C fun w C => ?_)
    exact ok_ret.2 ⟨C.below, by simp [h]⟩
  · refine ok_fB (by simp only [gt_iff_lt, decide_eq_false_iff_not]; omega) ?_
    repeat first
      | with_reducible refine ok_assoc ?_
      | with_reducible refine ok_retB ?_
      | (with_reducible refine ah_newC ?_; refine ok_newL C fun bq w C => ?_)
      | (with_reducible refine ah_ord ?_; refine ok_ordL C fun oq w C => ?_)
      | (with_reducible refine ah_draw ?_; refine ok_drawL C fun w C => ?_)
      | (with_reducible refine ah_ldA ?_; first | refine w_ldA1 C ?_ | refine w_ldA2 C ?_)
      | (with_reducible refine ah_ldA3 ?_; refine w_ldA3 C ?_)
      | (with_reducible refine ah_ldA4 ?_; refine w_ldA4 C ?_)
      | (with_reducible refine ah_chA ?_; first | refine w_chA1 C ?_ | refine w_chA2 C ?_)
      | (with_reducible refine ah_chA3 ?_; refine w_chA3 C ?_)
      | (with_reducible refine ah_wrA ?_; refine w_wrA1 C fun w C => ?_)
    refine ok_ret.2 ⟨C.below, ?_⟩
    rw [decide_eq_decide]
    omega
theorem texts_is (s : ByteArray) (a : Lg) (b : Int) : Is (f4_palaverlaw09_LargeTexts s a b) true := by
  intro wb
  unfold f4_palaverlaw09_LargeTexts
  obtain ⟨rf, hf⟩ := far_ex3 a a
  have C := Cx.nil No wb
  repeat first
    | with_reducible refine ok_assoc ?_
    | with_reducible refine ok_retB ?_
    | with_reducible refine ok_is C (works_is) fun w C => ?_
    | with_reducible refine ok_is C (hf) fun w C => ?_
    | (with_reducible refine ah_newC ?_; refine ok_newL C fun bq w C => ?_)
    | (with_reducible refine ah_ord ?_; refine ok_ordL C fun oq w C => ?_)
    | (with_reducible refine ah_draw ?_; refine ok_drawL C fun w C => ?_)
    | (with_reducible refine ah_ldA ?_; first | refine w_ldA1 C ?_ | refine w_ldA2 C ?_)
    | (with_reducible refine ah_ldA3 ?_; refine w_ldA3 C ?_)
    | (with_reducible refine ah_ldA4 ?_; refine w_ldA4 C ?_)
    | (with_reducible refine ah_chA ?_; first | refine w_chA1 C ?_ | refine w_chA2 C ?_)
    | (with_reducible refine ah_chA3 ?_; refine w_chA3 C ?_)
    | (with_reducible refine ah_wrA ?_; refine w_wrA1 C fun w C => ?_)
  by_cases hg : rf = false ∧ s.size ≤ 1048576
  rotate_left
  · refine ok_true ?_ (ok_ret.2 ⟨C.below, rfl⟩)
    cases rf
    · have : 1048576 < s.size := by
        rcases Nat.lt_or_ge 1048576 s.size with h | h
        · exact h
        · exact absurd ⟨rfl, h⟩ hg
      simp only [cond_false, gt_iff_lt, decide_eq_true_eq]; omega
    · rfl
  obtain ⟨rfl, hs⟩ := hg
  refine ok_false (by simp only [cond_false, gt_iff_lt, decide_eq_false_iff_not]; omega) ?_
  repeat first
    | with_reducible refine ok_assoc ?_
    | with_reducible refine ok_retB ?_
    | with_reducible refine ok_is C (parse_is s (by omega) b) fun w C => ?_
    | with_reducible refine ok_is C (rparse_is s (by omega) b) fun w C => ?_
    | with_reducible refine ok_is C (text_is _ _) fun w C => ?_
    | with_reducible refine ok_is C (rtext_is _ _) fun w C => ?_
    | (with_reducible refine ah_newC ?_; refine ok_newL C fun bq w C => ?_)
    | (with_reducible refine ah_ord ?_; refine ok_ordL C fun oq w C => ?_)
    | (with_reducible refine ah_draw ?_; refine ok_drawL C fun w C => ?_)
    | (with_reducible refine ah_ldA ?_; first | refine w_ldA1 C ?_ | refine w_ldA2 C ?_)
    | (with_reducible refine ah_ldA3 ?_; refine w_ldA3 C ?_)
    | (with_reducible refine ah_ldA4 ?_; refine w_ldA4 C ?_)
    | (with_reducible refine ah_chA ?_; first | refine w_chA1 C ?_ | refine w_chA2 C ?_)
    | (with_reducible refine ah_chA3 ?_; refine w_chA3 C ?_)
    | (with_reducible refine ah_wrA ?_; refine w_wrA1 C fun w C => ?_)
  refine ok_tB rfl ?_
  repeat first
    | with_reducible refine ok_assoc ?_
    | with_reducible refine ok_retB ?_
    | (with_reducible refine ah_newC ?_; refine ok_newL C fun bq w C => ?_)
    | (with_reducible refine ah_ord ?_; refine ok_ordL C fun oq w C => ?_)
    | (with_reducible refine ah_draw ?_; refine ok_drawL C fun w C => ?_)
    | (with_reducible refine ah_ldA ?_; first | refine w_ldA1 C ?_ | refine w_ldA2 C ?_)
    | (with_reducible refine ah_ldA3 ?_; refine w_ldA3 C ?_)
    | (with_reducible refine ah_ldA4 ?_; refine w_ldA4 C ?_)
    | (with_reducible refine ah_chA ?_; first | refine w_chA1 C ?_ | refine w_chA2 C ?_)
    | (with_reducible refine ah_chA3 ?_; refine w_chA3 C ?_)
    | (with_reducible refine ah_wrA ?_; refine w_wrA1 C fun w C => ?_)
  refine ok_ret.2 ⟨C.below, ?_⟩
  simp [strEq_eq]
end Go.Proofs.Ytoekfjgikicclaa
