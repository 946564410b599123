/-
  Part of the proof: L35. It states what the functions do; no further condition.
-/
import Derived.Test.YtoekfjgikicclaaL34
set_option linter.unusedVariables false
set_option linter.unusedSimpArgs false
namespace Go.Sh
set_option linter.unusedVariables false
theorem pv_rev {b : Nat} (hb : b ≤ 36) : ∀ {l : List Int}, Dg b l → ((pv b (l.map dch).reverse : Nat) : Int) = vl b l
  | [], _ => rfl
  | d :: l, h => by
    have hd := h.head
    rw [List.map_cons, List.reverse_cons]
    have e : pv b ((l.map dch).reverse ++ [dch d]) = pv b (l.map dch).reverse * b + (cval (dch d)).toNat := by
      unfold pv; rw [List.foldl_append]; rfl
    rw [e, cval_dch hd.1 (by omega), vl_cons, ← pv_rev hb h.tail]
    have : ((d.toNat : Nat) : Int) = d := by omega
    rw [Int.natCast_add, Int.natCast_mul, this, Int.mul_comm]
    omega
theorem dch_head {b : Nat} (hb : b ≤ 36) {d : Int} (h : 0 ≤ d ∧ d < b) : dch d ≠ 45 ∧ (dch d = 48 → d = 0) := by
  unfold dch; constructor
  · split <;> omega
  · split <;> omega
/-- The digits of a number, the first one first. -/
theorem rev_head {b n : Nat} (hb : 2 ≤ b) (hn : n ≠ 0) : ∃ d l, ((dgs b n).map dch).reverse = dch d :: l ∧ 0 ≤ d ∧ d < b ∧ d ≠ 0 := by
  have hne : dgs b n ≠ [] := by rw [dgs_pos hb hn]; simp
  have hc := cn_dgs hb n
  refine ⟨(dgs b n).getLast hne, ((dgs b n).dropLast.map dch).reverse, ?_, ?_, ?_, ?_⟩
  · conv => lhs; rw [← List.dropLast_concat_getLast hne]
    simp
  · exact (dg_dgs hb n _ (List.getLast_mem hne)).1
  · exact (dg_dgs hb n _ (List.getLast_mem hne)).2
  · unfold Cn at hc
    rw [List.getLast?_eq_some_getLast hne] at hc
    simpa using hc
theorem okc_dch {b : Nat} (hb : b ≤ 36) {d : Int} (h : 0 ≤ d ∧ d < b) : okc b (dch d) := by
  unfold okc; rw [cval_dch h.1 (by omega)]; exact h
/-- A number written is read as itself. -/
theorem parse_txt {b : Nat} (hb : 2 ≤ b) (hb2 : b ≤ 36) {z : Int} (hz : ¬ tooBig z.natAbs) : parseR (mkB (txtL b z)) (b : Int) = (lg z, 0) := by
  have hdt : Dg 256 (txtL b z) := by
    unfold txtL
    split
    · intro x hx; rw [List.mem_singleton] at hx; subst hx; decide
    · intro x hx
      rcases List.mem_append.1 hx with hx | hx
      · split at hx
        · rw [List.mem_singleton] at hx; subst hx; decide
        · cases hx
      · rw [List.mem_reverse] at hx; exact dg_dch hb hb2 _ x hx
  unfold parseR
  rw [if_neg (by omega), Int.toNat_natCast, bl_mkB hdt]
  by_cases h0 : z = 0
  · subst h0
    have e : txtL b 0 = [48] := rfl
    rw [e, if_neg]
    · have : sv (pneg [48]) (pv b (pbody [48])) = 0 := by
        have h1 : pneg [48] = false := rfl
        have h2 : pbody [48] = [48] := rfl
        rw [h1, h2]
        show ((pv b [48] : Nat) : Int) = 0
        unfold pv
        simp [cval]
      rw [this]
      unfold toldZ; rw [if_neg hz]
    · rintro (h | ⟨c, hc, hn⟩)
      · rcases h with h | ⟨h, h'⟩
        · cases h
        · rcases h' with h' | h'
          · cases h'
          · exact h' rfl
      · have h2 : pbody [48] = [48] := rfl
        rw [h2, List.mem_singleton] at hc
        subst hc
        apply hn
        unfold okc cval; simp; omega
  · have hn : z.natAbs ≠ 0 := by omega
    obtain ⟨d, l, hl, hd0, hd1, hdn⟩ := rev_head hb hn
    have hh := dch_head hb2 ⟨hd0, hd1⟩
    have hneg : pneg (txtL b z) = decide (z < 0) := by
      unfold pneg txtL
      rw [if_neg h0]
      by_cases h : z < 0
      · simp [h]
      · simp only [h, if_false, List.nil_append, hl, List.head?_cons, Option.some.injEq, decide_false]
        simp [hh.1]
    have hbody : pbody (txtL b z) = ((dgs b z.natAbs).map dch).reverse := by
      unfold pbody
      rw [hneg]
      unfold txtL
      rw [if_neg h0]
      by_cases h : z < 0 <;> simp [h]
    rw [if_neg]
    · have h1 := pv_rev hb2 (dg_dgs hb z.natAbs)
      rw [vl_dgs hb] at h1
      have h2 : pv b (pbody (txtL b z)) = z.natAbs := by rw [hbody]; exact_mod_cast h1
      rw [hneg, h2]
      have h3 : sv (decide (z < 0)) z.natAbs = z := by
        unfold sv
        by_cases h : z < 0
        · simp only [h, decide_true, if_true]; omega
        · simp only [h, decide_false, Bool.false_eq_true, if_false]; omega
      rw [h3]
      unfold toldZ; rw [if_neg hz]
    · rintro (h | ⟨c, hc, hn⟩)
      · unfold pbad1 at h
        rw [hbody, hl] at h
        rcases h with h | ⟨h, _⟩
        · cases h
        · simp only [List.head?_cons, Option.some.injEq] at h
          exact hdn (hh.2 h)
      · rw [hbody, List.mem_reverse, List.mem_map] at hc
        obtain ⟨e, he, rfl⟩ := hc
        exact hn (okc_dch hb2 (dg_dgs hb _ e he))
theorem pv_le_mul {b : Nat} (hb : 1 ≤ b) : ∀ (T : List Int) (v : Nat), v ≤ T.foldl (fun v c => v * b + (cval c).toNat) v
  | [], v => Nat.le_refl _
  | c :: T, v => Nat.le_trans (Nat.le_trans (Nat.le_mul_of_pos_right v hb) (Nat.le_add_right _ _)) (pv_le_mul hb T _)
/-- A text read is written as itself. -/
theorem txt_parse {b : Nat} (hb : 2 ≤ b) (hb2 : b ≤ 36) {L : List Int} (h : ¬ pbad b L) : txtL b (sv (pneg L) (pv b (pbody L))) = L := by
  have hb1 : ¬ pbad1 L := fun h' => h (.inl h')
  have hok : ∀ c ∈ pbody L, okc b c := fun c hc => Decidable.byContradiction fun hn => h (.inr ⟨c, hc, hn⟩)
  generalize hT : pbody L = T at *
  have hL : L = (if pneg L then [45] else []) ++ T := by
    rw [← hT]
    unfold pbody
    by_cases hn : pneg L = true
    · rw [if_pos hn, if_pos hn]
      cases L with
      | nil => cases hn
      | cons c l =>
        unfold pneg at hn
        simp only [List.head?_cons, Option.some.injEq, decide_eq_true_eq] at hn
        rw [hn]; rfl
    · rw [if_neg hn, if_neg hn]; rfl
  cases T with
  | nil => exact absurd (.inl hT) hb1
  | cons c T =>
    have hc := hok c (.head _)
    by_cases h48 : c = 48
    · subst h48
      have h2 : pneg L = false ∧ (48 :: T) = [48] := by
        constructor
        · cases hp : pneg L with
          | false => rfl
          | true => exact absurd (.inr ⟨by rw [hT]; rfl, .inl hp⟩) hb1
        · exact Decidable.byContradiction fun hn => hb1 (.inr ⟨by rw [hT]; rfl, .inr (by rw [hT]; exact hn)⟩)
      rw [h2.2] at hL ⊢
      rw [h2.1] at hL ⊢
      rw [hL]
      have : sv false (pv b [48]) = 0 := by
        show ((pv b [48] : Nat) : Int) = 0
        unfold pv; simp [cval]
      rw [this]; rfl
    · have hcz : cval c ≠ 0 := by
        intro h0
        have := dch_cval (c := c) (by omega)
        rw [h0] at this
        exact h48 this.symm
      have hdT : Dg b ((c :: T).map cval).reverse := by
        intro x hx
        rw [List.mem_reverse, List.mem_map] at hx
        obtain ⟨e, he, rfl⟩ := hx
        exact hok e he
      have hmm : (((c :: T).map cval).reverse.map dch).reverse = c :: T := by
        rw [List.map_reverse, List.reverse_reverse, List.map_map]
        conv => rhs; rw [← List.map_id (c :: T)]
        refine List.map_congr_left fun e he => ?_
        exact dch_cval (hok e he).1
      have hval := pv_rev hb2 hdT
      rw [hmm] at hval
      have hcn : Cn ((c :: T).map cval).reverse := by
        unfold Cn
        rw [List.getLast?_reverse]
        simpa using hcz
      have hdg := Go.Proofs.Ytoekfjgikicclaa.dgs_val hb hdT hcn hval.symm
      have hpos : pv b (c :: T) ≠ 0 := by
        have h1 := pv_le_mul (b := b) (by omega) T (0 * b + (cval c).toNat)
        have h2 : pv b (c :: T) = T.foldl (fun v c => v * b + (cval c).toNat) (0 * b + (cval c).toNat) := rfl
        have := hc.1
        rw [h2]
        omega
      unfold txtL
      rw [sv_natAbs, if_neg (by unfold sv; split <;> omega), hdg, hmm]
      conv => rhs; rw [hL]
      congr 1
      cases hp : pneg L
      · rw [if_neg (by unfold sv; simp)]; rfl
      · rw [if_pos (by unfold sv; simp; omega)]; rfl
end Go.Sh
namespace Go.Proofs.Ytoekfjgikicclaa
set_option linter.unusedVariables false
open Go.Sh Go.RowKit
set_option maxRecDepth 100000
/-! ### What is written is read as itself, and what is read is written as itself -/
theorem txt_size {b : Nat} (hb : 2 ≤ b) {z : Int} (hz : ¬ tooBig z.natAbs) : (mkB (txtL b z)).size ≤ 100000 := by
  rw [mkB_size]
  have h1 := dgs_len_words hb z.natAbs
  have h2 : (dgs 4294967296 z.natAbs).length ≤ 1024 := tb_words hz
  unfold txtL
  split
  · simp
  · rw [List.length_append, List.length_reverse, List.length_map]
    have : (if z < 0 then [45] else ([] : List Int)).length ≤ 1 := by split <;> simp
    show _ + (dgs b z.natAbs).length ≤ _
    omega
theorem read_is (a : Lg) (s : ByteArray) (k : Int) : Is (f5_palaverlaw09_LargeRead a s k) true := by
  intro wb
  unfold f5_palaverlaw09_LargeRead
  have C := Cx.nil No wb
  repeat first
    | with_reducible refine ok_assoc ?_
    | with_reducible refine ok_retB ?_
    | with_reducible refine ok_is C (works_is) fun w C => ?_
    | (with_reducible refine ah_newC ?_; refine ok_newL C fun bq w C => ?_)
    | (with_reducible refine ah_ord ?_; refine ok_ordL C fun oq w C => ?_)
    | (with_reducible refine ah_draw ?_; refine ok_drawL C fun w C => ?_)
    | (with_reducible refine ah_ldA ?_; first | refine w_ldA1 C ?_ | refine w_ldA2 C ?_)
    | (with_reducible refine ah_ldA3 ?_; refine w_ldA3 C ?_)
    | (with_reducible refine ah_ldA4 ?_; refine w_ldA4 C ?_)
    | (with_reducible refine ah_ldN ?_; first | refine w_ldN1 C ?_ | refine w_ldN2 C ?_)
    | (with_reducible refine ah_ldN3 ?_; refine w_ldN3 C ?_)
    | (with_reducible refine ah_ldN4 ?_; refine w_ldN4 C ?_)
    | (with_reducible refine ah_chA ?_; first | refine w_chA1 C ?_ | refine w_chA2 C ?_)
    | (with_reducible refine ah_chA3 ?_; refine w_chA3 C ?_)
    | (with_reducible refine ah_chN ?_; first | refine w_chN1 C ?_ | refine w_chN2 C ?_)
    | (with_reducible refine ah_chN4 ?_; refine w_chN4 C ?_)
    | (with_reducible refine ah_wrA ?_; refine w_wrA1 C fun w C => ?_)
    | (with_reducible refine ah_wrN ?_; refine w_wrN1 C fun w C => ?_)
    | (with_reducible refine ah_wrN2 ?_; refine w_wrN2 C fun w C => ?_)
    | (with_reducible refine ah_wrN3 ?_; refine w_wrN3 C fun w C => ?_)
  by_cases hs : 100000 < s.size
  · exact ok_true (by simp only [gt_iff_lt, decide_eq_true_eq]; omega) (ok_ret.2 ⟨C.below, rfl⟩)
  refine ok_false (by simp only [gt_iff_lt, decide_eq_false_iff_not]; omega) ?_
  repeat first
    | with_reducible refine ok_assoc ?_
    | with_reducible refine ok_retB ?_
    | with_reducible refine ok_is C (text_is _ _) fun w C => ?_
    | (with_reducible refine ah_newC ?_; refine ok_newL C fun bq w C => ?_)
    | (with_reducible refine ah_ord ?_; refine ok_ordL C fun oq w C => ?_)
    | (with_reducible refine ah_draw ?_; refine ok_drawL C fun w C => ?_)
    | (with_reducible refine ah_ldA ?_; first | refine w_ldA1 C ?_ | refine w_ldA2 C ?_)
    | (with_reducible refine ah_ldA3 ?_; refine w_ldA3 C ?_)
    | (with_reducible refine ah_ldA4 ?_; refine w_ldA4 C ?_)
    | (with_reducible refine ah_ldN ?_; first | refine w_ldN1 C ?_ | refine w_ldN2 C ?_)
    | (with_reducible refine ah_ldN3 ?_; refine w_ldN3 C ?_)
    | (with_reducible refine ah_ldN4 ?_; refine w_ldN4 C ?_)
    | (with_reducible refine ah_chA ?_; first | refine w_chA1 C ?_ | refine w_chA2 C ?_)
    | (with_reducible refine ah_chA3 ?_; refine w_chA3 C ?_)
    | (with_reducible refine ah_chN ?_; first | refine w_chN1 C ?_ | refine w_chN2 C ?_)
    | (with_reducible refine ah_chN4 ?_; refine w_chN4 C ?_)
    | (with_reducible refine ah_wrA ?_; refine w_wrA1 C fun w C => ?_)
    | (with_reducible refine ah_wrN ?_; refine w_wrN1 C fun w C => ?_)
    | (with_reducible refine ah_wrN2 ?_; refine w_wrN2 C fun w C => ?_)
    | (with_reducible refine ah_wrN3 ?_; refine w_wrN3 C fun w C => ?_)
  have hP := parse_is s (by omega) k
  -- the text that is read
  have second : ∀ w1, (∃ L, Cx No wb w1 L) → Ok (bnd (f20_largeint_Parse s k) fun (r13 : ((Bool × ByteArray) × Int)) =>
  bnd (newC 23 [.bool false, .string (ByteArray.mk #[])]) fun (p14 : Addr) =>
  bnd (wrs p14 0 [.bool r13.1.1, .string r13.1.2]) fun _ =>
  cnd (r13.2 == (0 : Int)) (
  bnd (ld (.agg (.pair .bool .str)) p14) fun (v15 : (Bool × ByteArray)) =>
  bnd (f22_largeint_Text v15 k) fun (r16 : (ByteArray × Int)) =>
  ret (cond (cond true (r16.2 == (0 : Int)) false) (strEq r16.1 s) false)) (
  bnd (
  cnd true (
  bnd (ld (.agg (.pair .bool .str)) p14) fun (v17 : (Bool × ByteArray)) =>
  ret ((v17.1 == false) && (strEq v17.2 (ByteArray.mk #[])))) (
  ret false)) fun (b18 : Bool) =>
  ret b18)) w1 fun r w' => Below wb.heap.size wb w' ∧ r = true := by
    rintro w1 ⟨L, C⟩
    by_cases he : (parseR s k).2 = 0
    · have hp : ∃ n0 : Nat, k = n0 ∧ 2 ≤ n0 ∧ n0 ≤ 36 ∧ ¬ pbad n0 (bl s) ∧ ¬ tooBig (pv n0 (pbody (bl s))) := by
        unfold parseR at he
        split at he
        · cases he
        · rename_i hk
          split at he
          · cases he
          · rename_i hb
            refine ⟨k.toNat, by omega, by omega, by omega, hb, ?_⟩
            have := (toldZ_ok he).2
            rwa [sv_natAbs] at this
      obtain ⟨n0, rfl, hn2, hn36, hbad, hbig⟩ := hp
      have hv : parseR s (n0 : Int) = (lg (sv (pneg (bl s)) (pv n0 (pbody (bl s)))), 0) := by
        unfold parseR
        rw [if_neg (by omega), Int.toNat_natCast, if_neg hbad, toldZ_fine (by rw [sv_natAbs]; exact hbig)]
      rw [hv] at hP
      have hT := text_is (lg (sv (pneg (bl s)) (pv n0 (pbody (bl s))))) (n0 : Int)
      unfold textR at hT
      rw [if_pos (lg_ck (by rw [sv_natAbs]; exact hbig)), if_neg (by omega), Int.toNat_natCast, iv_lg, txt_parse hn2 hn36 hbad, mkB_bl] at hT
      refine ok_is C hP fun w C => ?_
      repeat first
        | with_reducible refine ok_assoc ?_
        | with_reducible refine ok_retB ?_
        | (with_reducible refine ah_newC ?_; refine ok_newL C fun bq w C => ?_)
        | (with_reducible refine ah_ord ?_; refine ok_ordL C fun oq w C => ?_)
        | (with_reducible refine ah_draw ?_; refine ok_drawL C fun w C => ?_)
        | (with_reducible refine ah_ldA ?_; first | refine w_ldA1 C ?_ | refine w_ldA2 C ?_)
        | (with_reducible refine ah_ldA3 ?_; refine w_ldA3 C ?_)
        | (with_reducible refine ah_ldA4 ?_; refine w_ldA4 C ?_)
        | (with_reducible refine ah_ldN ?_; first | refine w_ldN1 C ?_ | refine w_ldN2 C ?_)
        | (with_reducible refine ah_ldN3 ?_; refine w_ldN3 C ?_)
        | (with_reducible refine ah_ldN4 ?_; refine w_ldN4 C ?_)
        | (with_reducible refine ah_chA ?_; first | refine w_chA1 C ?_ | refine w_chA2 C ?_)
        | (with_reducible refine ah_chA3 ?_; refine w_chA3 C ?_)
        | (with_reducible refine ah_chN ?_; first | refine w_chN1 C ?_ | refine w_chN2 C ?_)
        | (with_reducible refine ah_chN4 ?_; refine w_chN4 C ?_)
        | (with_reducible refine ah_wrA ?_; refine w_wrA1 C fun w C => ?_)
        | (with_reducible refine ah_wrN ?_; refine w_wrN1 C fun w C => ?_)
        | (with_reducible refine ah_wrN2 ?_; refine w_wrN2 C fun w C => ?_)
        | (with_reducible refine ah_wrN3 ?_; refine w_wrN3 C fun w C => ?_)
      refine ok_true rfl ?_
      repeat first
        | with_reducible refine ok_assoc ?_
        | with_reducible refine ok_retB ?_
        | with_reducible refine ok_is C (hT) fun w C => ?_
        | (with_reducible refine ah_newC ?_; refine ok_newL C fun bq w C => ?_)
        | (with_reducible refine ah_ord ?_; refine ok_ordL C fun oq w C => ?_)
        | (with_reducible refine ah_draw ?_; refine ok_drawL C fun w C => ?_)
        | (with_reducible refine ah_ldA ?_; first | refine w_ldA1 C ?_ | refine w_ldA2 C ?_)
        | (with_reducible refine ah_ldA3 ?_; refine w_ldA3 C ?_)
        | (with_reducible refine ah_ldA4 ?_; refine w_ldA4 C ?_)
        | (with_reducible refine ah_ldN ?_; first | refine w_ldN1 C ?_ | refine w_ldN2 C ?_)
        | (with_reducible refine ah_ldN3 ?_; refine w_ldN3 C ?_)
        | (with_reducible refine ah_ldN4 ?_; refine w_ldN4 C ?_)
        | (with_reducible refine ah_chA ?_; first | refine w_chA1 C ?_ | refine w_chA2 C ?_)
        | (with_reducible refine ah_chA3 ?_; refine w_chA3 C ?_)
        | (with_reducible refine ah_chN ?_; first | refine w_chN1 C ?_ | refine w_chN2 C ?_)
        | (with_reducible refine ah_chN4 ?_; refine w_chN4 C ?_)
        | (with_reducible refine ah_wrA ?_; refine w_wrA1 C fun w C => ?_)
        | (with_reducible refine ah_wrN ?_; refine w_wrN1 C fun w C => ?_)
        | (with_reducible refine ah_wrN2 ?_; refine w_wrN2 C fun w C => ?_)
        | (with_reducible refine ah_wrN3 ?_; refine w_wrN3 C fun w C => ?_)
      exact ok_ret.2 ⟨C.below, by simp [strEq_eq]⟩
    · refine ok_is C hP fun w C => ?_
      repeat first
        | with_reducible refine ok_assoc ?_
        | with_reducible refine ok_retB ?_
        | (with_reducible refine ah_newC ?_; refine ok_newL C fun bq w C => ?_)
        | (with_reducible refine ah_ord ?_; refine ok_ordL C fun oq w C => ?_)
        | (with_reducible refine ah_draw ?_; refine ok_drawL C fun w C => ?_)
        | (with_reducible refine ah_ldA ?_; first | refine w_ldA1 C ?_ | refine w_ldA2 C ?_)
        | (with_reducible refine ah_ldA3 ?_; refine w_ldA3 C ?_)
        | (with_reducible refine ah_ldA4 ?_; refine w_ldA4 C ?_)
        | (with_reducible refine ah_ldN ?_; first | refine w_ldN1 C ?_ | refine w_ldN2 C ?_)
        | (with_reducible refine ah_ldN3 ?_; refine w_ldN3 C ?_)
        | (with_reducible refine ah_ldN4 ?_; refine w_ldN4 C ?_)
        | (with_reducible refine ah_chA ?_; first | refine w_chA1 C ?_ | refine w_chA2 C ?_)
        | (with_reducible refine ah_chA3 ?_; refine w_chA3 C ?_)
        | (with_reducible refine ah_chN ?_; first | refine w_chN1 C ?_ | refine w_chN2 C ?_)
        | (with_reducible refine ah_chN4 ?_; refine w_chN4 C ?_)
        | (with_reducible refine ah_wrA ?_; refine w_wrA1 C fun w C => ?_)
        | (with_reducible refine ah_wrN ?_; refine w_wrN1 C fun w C => ?_)
        | (with_reducible refine ah_wrN2 ?_; refine w_wrN2 C fun w C => ?_)
        | (with_reducible refine ah_wrN3 ?_; refine w_wrN3 C fun w C => ?_)
      refine ok_false (by simpa using he) ?_
      refine ok_tB rfl ?_
      repeat first
        | with_reducible refine ok_assoc ?_
        | with_reducible refine ok_retB ?_
        | (with_reducible refine ah_newC ?_; refine ok_newL C fun bq w C => ?_)
        | (with_reducible refine ah_ord ?_; refine ok_ordL C fun oq w C => ?_)
        | (with_reducible refine ah_draw ?_; refine ok_drawL C fun w C => ?_)
        | (with_reducible refine ah_ldA ?_; first | refine w_ldA1 C ?_ | refine w_ldA2 C ?_)
        | (with_reducible refine ah_ldA3 ?_; refine w_ldA3 C ?_)
        | (with_reducible refine ah_ldA4 ?_; refine w_ldA4 C ?_)
        | (with_reducible refine ah_ldN ?_; first | refine w_ldN1 C ?_ | refine w_ldN2 C ?_)
        | (with_reducible refine ah_ldN3 ?_; refine w_ldN3 C ?_)
        | (with_reducible refine ah_ldN4 ?_; refine w_ldN4 C ?_)
        | (with_reducible refine ah_chA ?_; first | refine w_chA1 C ?_ | refine w_chA2 C ?_)
        | (with_reducible refine ah_chA3 ?_; refine w_chA3 C ?_)
        | (with_reducible refine ah_chN ?_; first | refine w_chN1 C ?_ | refine w_chN2 C ?_)
        | (with_reducible refine ah_chN4 ?_; refine w_chN4 C ?_)
        | (with_reducible refine ah_wrA ?_; refine w_wrA1 C fun w C => ?_)
        | (with_reducible refine ah_wrN ?_; refine w_wrN1 C fun w C => ?_)
        | (with_reducible refine ah_wrN2 ?_; refine w_wrN2 C fun w C => ?_)
        | (with_reducible refine ah_wrN3 ?_; refine w_wrN3 C fun w C => ?_)
      refine ok_ret.2 ⟨C.below, ?_⟩
      have : (parseR s k).1 = zr := by
        unfold parseR at he ⊢
        split
        · rfl
        · split
          · rfl
          · rename_i h1 h2
            rw [if_neg h1, if_neg h2] at he
            unfold toldZ at he ⊢
            split
            · rfl
            · rename_i h3
              rw [if_neg h3] at he
              exact absurd rfl he
      rw [this, strEq_eq]; rfl
  by_cases ht : ck a = 0 ∧ 2 ≤ k ∧ k ≤ 36
  · obtain ⟨ha, h2, h36⟩ := ht
    obtain ⟨x, rfl, hx⟩ := ck_ex ha
    obtain ⟨n0, rfl⟩ := Int.eq_ofNat_of_zero_le (show 0 ≤ k by omega)
    have e : textR (lg x) (n0 : Int) = (mkB (txtL n0 x), 0) := by
      unfold textR; rw [if_pos ha, if_neg (by omega), Int.toNat_natCast, iv_lg]
    have hp2 := parse_is (mkB (txtL n0 x)) (by have := txt_size (b := n0) (by omega) hx; omega) (n0 : Int)
    rw [parse_txt (by omega) (by omega) hx] at hp2
    rw [e]
    refine ok_tB rfl ?_
    repeat first
      | with_reducible refine ok_assoc ?_
      | with_reducible refine ok_retB ?_
      | with_reducible refine ok_is C (hp2) fun w C => ?_
      | (with_reducible refine ah_newC ?_; refine ok_newL C fun bq w C => ?_)
      | (with_reducible refine ah_ord ?_; refine ok_ordL C fun oq w C => ?_)
      | (with_reducible refine ah_draw ?_; refine ok_drawL C fun w C => ?_)
      | (with_reducible refine ah_ldA ?_; first | refine w_ldA1 C ?_ | refine w_ldA2 C ?_)
      | (with_reducible refine ah_ldA3 ?_; refine w_ldA3 C ?_)
      | (with_reducible refine ah_ldA4 ?_; refine w_ldA4 C ?_)
      | (with_reducible refine ah_ldN ?_; first | refine w_ldN1 C ?_ | refine w_ldN2 C ?_)
      | (with_reducible refine ah_ldN3 ?_; refine w_ldN3 C ?_)
      | (with_reducible refine ah_ldN4 ?_; refine w_ldN4 C ?_)
      | (with_reducible refine ah_chA ?_; first | refine w_chA1 C ?_ | refine w_chA2 C ?_)
      | (with_reducible refine ah_chA3 ?_; refine w_chA3 C ?_)
      | (with_reducible refine ah_chN ?_; first | refine w_chN1 C ?_ | refine w_chN2 C ?_)
      | (with_reducible refine ah_chN4 ?_; refine w_chN4 C ?_)
      | (with_reducible refine ah_wrA ?_; refine w_wrA1 C fun w C => ?_)
      | (with_reducible refine ah_wrN ?_; refine w_wrN1 C fun w C => ?_)
      | (with_reducible refine ah_wrN2 ?_; refine w_wrN2 C fun w C => ?_)
      | (with_reducible refine ah_wrN3 ?_; refine w_wrN3 C fun w C => ?_)
    refine ok_fB rfl ?_
    repeat first
      | with_reducible refine ok_assoc ?_
      | with_reducible refine ok_retB ?_
      | (with_reducible refine ah_newC ?_; refine ok_newL C fun bq w C => ?_)
      | (with_reducible refine ah_ord ?_; refine ok_ordL C fun oq w C => ?_)
      | (with_reducible refine ah_draw ?_; refine ok_drawL C fun w C => ?_)
      | (with_reducible refine ah_ldA ?_; first | refine w_ldA1 C ?_ | refine w_ldA2 C ?_)
      | (with_reducible refine ah_ldA3 ?_; refine w_ldA3 C ?_)
      | (with_reducible refine ah_ldA4 ?_; refine w_ldA4 C ?_)
      | (with_reducible refine ah_ldN ?_; first | refine w_ldN1 C ?_ | refine w_ldN2 C ?_)
      | (with_reducible refine ah_ldN3 ?_; refine w_ldN3 C ?_)
      | (with_reducible refine ah_ldN4 ?_; refine w_ldN4 C ?_)
      | (with_reducible refine ah_chA ?_; first | refine w_chA1 C ?_ | refine w_chA2 C ?_)
      | (with_reducible refine ah_chA3 ?_; refine w_chA3 C ?_)
      | (with_reducible refine ah_chN ?_; first | refine w_chN1 C ?_ | refine w_chN2 C ?_)
      | (with_reducible refine ah_chN4 ?_; refine w_chN4 C ?_)
      | (with_reducible refine ah_wrA ?_; refine w_wrA1 C fun w C => ?_)
      | (with_reducible refine ah_wrN ?_; refine w_wrN1 C fun w C => ?_)
      | (with_reducible refine ah_wrN2 ?_; refine w_wrN2 C fun w C => ?_)
      | (with_reducible refine ah_wrN3 ?_; refine w_wrN3 C fun w C => ?_)
    refine ok_fB (by simp [strEq_eq]) ?_
    repeat first
      | with_reducible refine ok_assoc ?_
      | with_reducible refine ok_retB ?_
      | (with_reducible refine ah_newC ?_; refine ok_newL C fun bq w C => ?_)
      | (with_reducible refine ah_ord ?_; refine ok_ordL C fun oq w C => ?_)
      | (with_reducible refine ah_draw ?_; refine ok_drawL C fun w C => ?_)
      | (with_reducible refine ah_ldA ?_; first | refine w_ldA1 C ?_ | refine w_ldA2 C ?_)
      | (with_reducible refine ah_ldA3 ?_; refine w_ldA3 C ?_)
      | (with_reducible refine ah_ldA4 ?_; refine w_ldA4 C ?_)
      | (with_reducible refine ah_ldN ?_; first | refine w_ldN1 C ?_ | refine w_ldN2 C ?_)
      | (with_reducible refine ah_ldN3 ?_; refine w_ldN3 C ?_)
      | (with_reducible refine ah_ldN4 ?_; refine w_ldN4 C ?_)
      | (with_reducible refine ah_chA ?_; first | refine w_chA1 C ?_ | refine w_chA2 C ?_)
      | (with_reducible refine ah_chA3 ?_; refine w_chA3 C ?_)
      | (with_reducible refine ah_chN ?_; first | refine w_chN1 C ?_ | refine w_chN2 C ?_)
      | (with_reducible refine ah_chN4 ?_; refine w_chN4 C ?_)
      | (with_reducible refine ah_wrA ?_; refine w_wrA1 C fun w C => ?_)
      | (with_reducible refine ah_wrN ?_; refine w_wrN1 C fun w C => ?_)
      | (with_reducible refine ah_wrN2 ?_; refine w_wrN2 C fun w C => ?_)
      | (with_reducible refine ah_wrN3 ?_; refine w_wrN3 C fun w C => ?_)
    exact second _ ⟨_, C⟩
  · have e : (textR a k).2 ≠ 0 := by
      unfold textR
      split
      · rename_i h1
        have h9 : k < 2 ∨ 36 < k := by
          by_cases h2 : k < 2
          · exact .inl h2
          · right
            rcases Int.lt_or_le 36 k with h3 | h3
            · exact h3
            · exact absurd ⟨h1, by omega, h3⟩ ht
        rw [if_pos h9]
        decide
      · rename_i h1; exact h1
    refine ok_fB (by simpa using e) ?_
    repeat first
      | with_reducible refine ok_assoc ?_
      | with_reducible refine ok_retB ?_
      | (with_reducible refine ah_newC ?_; refine ok_newL C fun bq w C => ?_)
      | (with_reducible refine ah_ord ?_; refine ok_ordL C fun oq w C => ?_)
      | (with_reducible refine ah_draw ?_; refine ok_drawL C fun w C => ?_)
      | (with_reducible refine ah_ldA ?_; first | refine w_ldA1 C ?_ | refine w_ldA2 C ?_)
      | (with_reducible refine ah_ldA3 ?_; refine w_ldA3 C ?_)
      | (with_reducible refine ah_ldA4 ?_; refine w_ldA4 C ?_)
      | (with_reducible refine ah_ldN ?_; first | refine w_ldN1 C ?_ | refine w_ldN2 C ?_)
      | (with_reducible refine ah_ldN3 ?_; refine w_ldN3 C ?_)
      | (with_reducible refine ah_ldN4 ?_; refine w_ldN4 C ?_)
      | (with_reducible refine ah_chA ?_; first | refine w_chA1 C ?_ | refine w_chA2 C ?_)
      | (with_reducible refine ah_chA3 ?_; refine w_chA3 C ?_)
      | (with_reducible refine ah_chN ?_; first | refine w_chN1 C ?_ | refine w_chN2 C ?_)
      | (with_reducible refine ah_chN4 ?_; refine w_chN4 C ?_)
      | (with_reducible refine ah_wrA ?_; refine w_wrA1 C fun w C => ?_)
      | (with_reducible refine ah_wrN ?_; refine w_wrN1 C fun w C => ?_)
      | (with_reducible refine ah_wrN2 ?_; refine w_wrN2 C fun w C => ?_)
      | (with_reducible refine ah_wrN3 ?_; refine w_wrN3 C fun w C => ?_)
    exact second _ ⟨_, C⟩
end Go.Proofs.Ytoekfjgikicclaa
