/-
  Part of the proof: L29. It states what the functions do; no further condition.
-/
import Derived.Test.YtoekfjgikicclaaL28
set_option linter.unusedVariables false
set_option linter.unusedSimpArgs false
namespace Go.Sh
set_option linter.unusedVariables false
/-- A digit of a text. -/
def dch (d : Int) : Int := if d < 10 then 48 + d else 55 + d
def digB : ByteArray := ByteArray.mk #[48, 49, 50, 51, 52, 53, 54, 55, 56, 57, 65, 66, 67, 68, 69, 70, 71, 72, 73, 74, 75, 76, 77, 78, 79, 80, 81, 82, 83, 84, 85, 86, 87, 88, 89, 90]
theorem tab_at : ∀ i : Fin 36, (bl digB)[i.val]? = some (dch i.val) := by decide
/-- A number written to a base. -/
def txtL (b : Nat) (z : Int) : List Int := if z = 0 then [48] else (if z < 0 then [45] else []) ++ ((dgs b z.natAbs).map dch).reverse
theorem dg_dch {b : Nat} (hb : 2 ≤ b) (hb2 : b ≤ 36) (n : Nat) : Dg 256 ((dgs b n).map dch) := fun x hx => by
  obtain ⟨d, hd, rfl⟩ := List.mem_map.1 hx
  have := dg_dgs hb n d hd
  unfold dch
  split <;> omega
theorem dgs_len_words {b : Nat} (hb : 2 ≤ b) (n : Nat) : (dgs b n).length ≤ 32 * (dgs 4294967296 n).length := by
  refine dgs_length hb ?_
  have h1 := lt_dgs (b := 4294967296) (by decide) n
  have h2 : (4294967296 : Nat) ^ (dgs 4294967296 n).length = 2 ^ (32 * (dgs 4294967296 n).length) := by rw [Nat.pow_mul]
  rw [h2] at h1
  exact Nat.lt_of_lt_of_le h1 (Nat.pow_le_pow_left hb _)
end Go.Sh
namespace Go.Proofs.Ytoekfjgikicclaa
set_option linter.unusedVariables false
open Go.Sh Go.RowKit
set_option maxRecDepth 100000
/-! ### A large integer written as a text -/
def textR (a : Lg) (b : Int) : ByteArray × Int := if ck a = 0 then (if b < 2 ∨ 36 < b then (ByteArray.mk #[], 1) else (mkB (txtL b.toNat (iv a)), 0)) else (ByteArray.mk #[], ck a)
theorem nums_snoc {k : IntKind} (l : List Int) (x : Int) : nums k l ++ [Value.int k x] = nums k (l ++ [x]) := by simp [nums]
theorem text_is (a : Lg) (b : Int) : Is (f22_largeint_Text a b) (textR a b) := by
  intro wb
  unfold f22_largeint_Text textR
  have hml : maxLen = 9223372036854775807 := by decide
  have C := Cx.nil No wb
  repeat first
    | with_reducible refine ok_assoc ?_
    | with_reducible refine ok_retB ?_
    | refine ok_is C (check_is _) fun w C => ?_
    | (with_reducible refine ah_newC ?_; refine ok_newL C fun bq w C => ?_)
    | (with_reducible refine ah_ord ?_; refine ok_ordL C fun oq w C => ?_)
    | (with_reducible refine ah_draw ?_; refine ok_drawL C fun w C => ?_)
    | (with_reducible refine ah_ldA ?_; first | refine w_ldA1 C ?_ | refine w_ldA2 C ?_)
    | (with_reducible refine ah_ldA3 ?_; refine w_ldA3 C ?_)
    | (with_reducible refine ah_ldA4 ?_; refine w_ldA4 C ?_)
    | (with_reducible refine ah_ldN ?_; first | refine w_ldN1 C ?_ | refine w_ldN2 C ?_)
    | (with_reducible refine ah_ldN3 ?_; refine w_ldN3 C ?_)
    | (with_reducible refine ah_ldN4 ?_; refine w_ldN4 C ?_)
    | (with_reducible refine ah_chA ?_; first | refine w_chA1 C ?_ | refine w_chA2 C ?_)
    | (with_reducible refine ah_chA3 ?_; refine w_chA3 C ?_)
    | (with_reducible refine ah_chN ?_; first | refine w_chN1 C ?_ | refine w_chN2 C ?_)
    | (with_reducible refine ah_chN4 ?_; refine w_chN4 C ?_)
    | (with_reducible refine ah_wrA ?_; refine w_wrA1 C fun w C => ?_)
    | (with_reducible refine ah_wrN ?_; refine w_wrN1 C fun w C => ?_)
    | (with_reducible refine ah_wrN2 ?_; refine w_wrN2 C fun w C => ?_)
    | (with_reducible refine ah_wrN3 ?_; refine w_wrN3 C fun w C => ?_)
  by_cases h : ck a = 0
  rotate_left
  · rw [if_neg h]
    exact ok_true (by show (ck a != 0) = true; simpa using h) (ok_ret.2 ⟨C.below, rfl⟩)
  rw [if_pos h]
  refine ok_false (by show (ck a != 0) = false; rw [h]; rfl) ?_
  by_cases hf : b < 2 ∨ 36 < b
  · rw [if_pos hf]
    refine ok_true ?_ (ok_ret.2 ⟨C.below, rfl⟩)
    by_cases h1 : b < 2
    · simp [h1]
    · simp [h1]; omega
  rw [if_neg hf]
  refine ok_false (by simp only [show ¬ b < 2 by omega, decide_false, cond_false, gt_iff_lt, decide_eq_false_iff_not]; omega) ?_
  repeat first
    | with_reducible refine ok_assoc ?_
    | with_reducible refine ok_retB ?_
    | (with_reducible refine ah_newC ?_; refine ok_newL C fun bq w C => ?_)
    | (with_reducible refine ah_ord ?_; refine ok_ordL C fun oq w C => ?_)
    | (with_reducible refine ah_draw ?_; refine ok_drawL C fun w C => ?_)
    | (with_reducible refine ah_ldA ?_; first | refine w_ldA1 C ?_ | refine w_ldA2 C ?_)
    | (with_reducible refine ah_ldA3 ?_; refine w_ldA3 C ?_)
    | (with_reducible refine ah_ldA4 ?_; refine w_ldA4 C ?_)
    | (with_reducible refine ah_ldN ?_; first | refine w_ldN1 C ?_ | refine w_ldN2 C ?_)
    | (with_reducible refine ah_ldN3 ?_; refine w_ldN3 C ?_)
    | (with_reducible refine ah_ldN4 ?_; refine w_ldN4 C ?_)
    | (with_reducible refine ah_chA ?_; first | refine w_chA1 C ?_ | refine w_chA2 C ?_)
    | (with_reducible refine ah_chA3 ?_; refine w_chA3 C ?_)
    | (with_reducible refine ah_chN ?_; first | refine w_chN1 C ?_ | refine w_chN2 C ?_)
    | (with_reducible refine ah_chN4 ?_; refine w_chN4 C ?_)
    | (with_reducible refine ah_wrA ?_; refine w_wrA1 C fun w C => ?_)
    | (with_reducible refine ah_wrN ?_; refine w_wrN1 C fun w C => ?_)
    | (with_reducible refine ah_wrN2 ?_; refine w_wrN2 C fun w C => ?_)
    | (with_reducible refine ah_wrN3 ?_; refine w_wrN3 C fun w C => ?_)
  refine ok_join C (of_spec (ck_mk h) (ck_size h) _) (fun r w' h => h.1) ?_
  rintro ⟨x, s⟩ w ⟨_, hs⟩ C
  simp only [List.cons_append, List.nil_append] at C hs
  subst hs
  repeat first
    | with_reducible refine ok_assoc ?_
    | with_reducible refine ok_retB ?_
    | (with_reducible refine ah_newC ?_; refine ok_newL C fun bq w C => ?_)
    | (with_reducible refine ah_ord ?_; refine ok_ordL C fun oq w C => ?_)
    | (with_reducible refine ah_draw ?_; refine ok_drawL C fun w C => ?_)
    | (with_reducible refine ah_ldA ?_; first | refine w_ldA1 C ?_ | refine w_ldA2 C ?_)
    | (with_reducible refine ah_ldA3 ?_; refine w_ldA3 C ?_)
    | (with_reducible refine ah_ldA4 ?_; refine w_ldA4 C ?_)
    | (with_reducible refine ah_ldN ?_; first | refine w_ldN1 C ?_ | refine w_ldN2 C ?_)
    | (with_reducible refine ah_ldN3 ?_; refine w_ldN3 C ?_)
    | (with_reducible refine ah_ldN4 ?_; refine w_ldN4 C ?_)
    | (with_reducible refine ah_chA ?_; first | refine w_chA1 C ?_ | refine w_chA2 C ?_)
    | (with_reducible refine ah_chA3 ?_; refine w_chA3 C ?_)
    | (with_reducible refine ah_chN ?_; first | refine w_chN1 C ?_ | refine w_chN2 C ?_)
    | (with_reducible refine ah_chN4 ?_; refine w_chN4 C ?_)
    | (with_reducible refine ah_wrA ?_; refine w_wrA1 C fun w C => ?_)
    | (with_reducible refine ah_wrN ?_; refine w_wrN1 C fun w C => ?_)
    | (with_reducible refine ah_wrN2 ?_; refine w_wrN2 C fun w C => ?_)
    | (with_reducible refine ah_wrN3 ?_; refine w_wrN3 C fun w C => ?_)
  obtain ⟨b6, hb6⟩ : ∃ b6, b6 = bq := ⟨bq, rfl⟩
  subst hb6
  obtain ⟨n0, hbn⟩ : ∃ n0 : Nat, b = n0 := ⟨b.toNat, by omega⟩
  subst hbn
  have hb2 : 2 ≤ n0 := by omega
  have hb36 : n0 ≤ 36 := by omega
  rw [Int.toNat_natCast, wrapU32_in (n := (n0 : Int)) ⟨by omega, by omega⟩]
  replace C : Cx No wb w [.cells b6 [.slice x.a x.len x.cap, .bool a.1], .own x (nums .u32 (dw (nv a)))] := C.pick [0, 1] (by simp)
  have hlx : x.len = (dw (nv a)).length := by have := (C.arr (i := 1) (xs := nums .u32 (dw (nv a))) rfl).1; simpa using this
  have hla := dw_len_ok h
  have hdl : (dgs n0 (nv a)).length ≤ 32 * (dw (nv a)).length := dgs_len_words hb2 (nv a)
  replace C : Cx No wb w [.own ⟨none, 0, 0⟩ (nums .u8 (([] : List Int).map dch)), .cells b6 [.slice x.a x.len x.cap, .bool a.1], .own x (nums .u32 (dw (nv a)))] := C.addNil
  have hnv : (iv a).natAbs = nv a := natAbs_iv a
  have hneg : ∀ h0 : nv a ≠ 0, decide (iv a < 0) = a.1 := by
    intro h0
    unfold iv sv
    cases a.1 <;> simp <;> omega
  refine ok_loopN (fun N (q : Sl) w' => ∃ x os, Cx No wb w' [.own q (nums .u8 (os.map dch)), .cells b6 [.slice x.a x.len x.cap, .bool a.1], .own x (nums .u32 (dw N))] ∧ os ++ dgs n0 N = dgs n0 (nv a) ∧ x.len ≤ 1024)
    ?_ (nv a) _ _ ⟨x, [], C, rfl, by omega⟩
  clear C hlx
  rintro N q w ⟨x, os, C, hos, hxl⟩
  have hq : q.len = os.length := by have := (C.get (i := 0) rfl).1; simpa using this
  have hxe : x.len = (dw N).length := by have := (C.arr (i := 2) (xs := nums .u32 (dw N)) rfl).1; simpa using this
  have hosl : os.length + (dgs n0 N).length = (dgs n0 (nv a)).length := by rw [← hos]; simp
  refine ok_ldN3 C 1 rfl ?_
  by_cases hN : N = 0
  rotate_left
  · refine ok_true (by have := dw_zero (n := N); simp; omega) ?_
    refine ok_ldN3 C 1 rfl ?_
    refine ok_callL C (short_spec (C.arr (i := 2) (xs := nums .u32 (dw N)) rfl) (by omega) (d := (n0 : Int)) ⟨by omega, by omega⟩ (by omega)) (fun r w' h => h.1) ?_
    rintro ⟨y, rest⟩ w2 ⟨hB, hy, hrest⟩ _
    simp only at hy hrest
    rw [Int.toNat_natCast] at hy hrest
    replace C := C.addOwn hB hy
    clear hB
    refine ok_wrN2 C 2 rfl fun w C => ?_
    have hrl : N % n0 < n0 := Nat.mod_lt _ (by omega)
    rw [hrest]
    refine ok_ixB (by omega) (t := dch ((N % n0 : Nat) : Int)) (by rw [Int.toNat_natCast]; exact tab_at ⟨N % n0, by omega⟩) ?_
    have hdz : dgs n0 N = ((N % n0 : Nat) : Int) :: dgs n0 (N / n0) := dgs_pos hb2 hN
    refine ok_push1 slt61 C (i := 1) (s := q) rfl (nums_one _) _ rfl rfl (by omega) (by omega) fun r w' C2 hr => ok_ret.2 ⟨N / n0, Nat.div_lt_self (by omega) (by omega), y, os ++ [((N % n0 : Nat) : Int)], ?_, ?_, ?_⟩
    · rw [nums_snoc] at C2
      rw [List.map_append]
      exact C2.pick [1, 2, 0] (by simp)
    · rw [List.append_assoc, ← hos, hdz]; rfl
    · have h1 := NO.len hy
      have h2 : (dw (N / n0)).length ≤ (dw N).length := dw_len_mono (Nat.div_le_self _ _)
      omega
  subst hN
  refine ok_false (by have := dw_zero (n := 0); simp; omega) ?_
  rw [dgs_zero, List.append_nil] at hos
  subst hos
  refine ok_bnd.2 ?_
  by_cases hz : nv a = 0
  · have hz2 : iv a = 0 := iv_zero.2 hz
    refine ok_true (by rw [hz, dgs_zero] at hq; simp at hq ⊢; omega) (ok_ret.2 (ok_ret.2 ⟨C.below, ?_⟩))
    unfold txtL
    rw [if_pos hz2]; rfl
  have hz2 : iv a ≠ 0 := fun h => hz (iv_zero.1 h)
  have hpos : (dgs n0 (nv a)).length ≠ 0 := by rw [dgs_pos hb2 hz]; simp
  refine ok_false (by simp; omega) ?_
  refine ok_ldN4 C 1 rfl ?_
  have htx : txtL n0 (iv a) = ((dgs n0 (nv a)).map dch ++ (if a.1 then [45] else [])).reverse := by
    unfold txtL
    rw [if_neg hz2, hnv, List.reverse_append, ← hneg hz]
    by_cases h0 : iv a < 0 <;> simp [h0]
  have fin : ∀ (r : Sl) (w : World) (L : List It) (os : List Int), Cx No wb w (.own r (nums .u8 os) :: L) → os = (dgs n0 (nv a)).map dch ++ (if a.1 then [45] else []) → r.len ≤ 1000000 → Ok (bnd (f63_slices_Reversebyte_byte r) fun (r18 : Unit) =>
  bnd (runV Try.prog .str (convert 61 9 (.slice r.a r.len r.cap))) fun (v19 : ByteArray) =>
  ret (v19, (0 : Int))) w fun x w' => Below wb.heap.size wb w' ∧ x = (mkB (txtL n0 (iv a)), 0) := by
    intro r w L os C he hr
    refine ok_bnd.2 (ok_mono (reverse_spec (C.ret (i := 0) rfl) (by omega)) ?_)
    rintro _ w2 ⟨hk, ho⟩
    have C2 := C.turnOwn (i := 0) (ys := nums .u8 os.reverse) rfl hk (own_lower ho (Nat.zero_le _))
    have hd : Dg 256 os.reverse := by
      intro x hx
      rw [List.mem_reverse, he, List.mem_append] at hx
      rcases hx with hx | hx
      · exact dg_dch hb2 hb36 _ x hx
      · split at hx
        · rw [List.mem_singleton] at hx; subst hx; decide
        · cases hx
    refine ok_toStr slt61.under und5 und9 (C2.arr (i := 0) rfl) hd (ok_ret.2 ⟨C2.below, ?_⟩)
    rw [htx, he]
  by_cases hn : a.1 = true
  · refine ok_tB hn ?_
    simp only [bnd_as, bnd_ret]
    refine ok_push1 slt61 C (i := 0) (s := q) (xs := nums .u8 ((dgs n0 (nv a)).map dch)) rfl (nums_one _) (.int .u8 45) rfl rfl (by omega) (by omega) fun r w' C2 hr => ?_
    rw [nums_snoc] at C2
    exact ok_mono (fin r w' _ _ C2 (by rw [if_pos hn]) (by omega)) (fun _ _ h => ok_ret.2 h)
  · rw [Bool.not_eq_true] at hn
    refine ok_fB hn (ok_retB ?_)
    exact ok_mono (fin q w _ _ C (by rw [if_neg (by simp [hn])]; simp) (by omega)) (fun _ _ h => ok_ret.2 h)
end Go.Proofs.Ytoekfjgikicclaa
