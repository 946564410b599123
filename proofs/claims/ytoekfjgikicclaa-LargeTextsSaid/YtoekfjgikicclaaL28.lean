/-
  Part of the proof: L28. It states what the functions do; no further condition.
-/
import Derived.Test.YtoekfjgikicclaaL27
set_option linter.unusedVariables false
set_option linter.unusedSimpArgs false
namespace Go.Proofs.Ytoekfjgikicclaa
set_option linter.unusedVariables false
open Go.Sh Go.RowKit
set_option maxRecDepth 100000
/-! ### Turned about; searched; a number times a word, and a word more -/
theorem reverse_spec {B : Nat} {w : World} {s : Sl} {l : List Int} (H : Own B w s (nums .u8 l)) (ls : s.len ≤ 1000000000) :
    Ok (f63_slices_Reversebyte_byte s) w fun _ w' => Keep (blkOf s) w w' ∧ Own B w' s (nums .u8 l.reverse) := by
  unfold f63_slices_Reversebyte_byte
  have el : s.len = l.length := by have := H.1; simpa using this
  have e0 : IntKind.wrap .i64 ((s.len : Int) - 1) = (s.len : Int) - 1 := wrapI_in (by omega)
  rw [e0]
  refine ok_loop (fun (q : Int × Int) w' => ∃ c, Cx (blkOf s) w w' [.own s (nums .u8 c)] ∧ c.length = l.length ∧ ∃ i : Nat, q.1 = i ∧ q.2 = (l.length : Int) - 1 - i ∧ i ≤ l.length ∧ ∀ k, c[k]? = if k < i ∨ (l.length ≤ k + i ∧ k < l.length) then l.reverse[k]? else l[k]?)
    (fun q _ => ((l.length : Int) - q.1).toNat) ?_ _ _ ⟨l, Cx.one H, rfl, 0, rfl, by simp only; omega, Nat.zero_le _, fun k => by rw [if_neg (by omega)]⟩
  rintro ⟨q1, q2⟩ w3 ⟨c, C, hl, i, rfl, h2, hi, hc⟩
  simp only at h2 ⊢
  subst h2
  by_cases hlt : (i : Int) < (l.length : Int) - 1 - i
  · refine ok_true (by simpa using hlt) ?_
    obtain ⟨j, hj⟩ : ∃ j : Nat, (l.length : Int) - 1 - i = j := ⟨l.length - 1 - i, by omega⟩
    rw [hj]
    rw [hj] at hlt
    obtain ⟨x, hx⟩ := get_some (l := c) (i := i) (by omega)
    obtain ⟨y, hy⟩ := get_some (l := c) (i := j) (by omega)
    obtain ⟨bl, hb⟩ := own_block (C.get (i := 0) rfl) (n := i) (by omega)
    refine ok_bnd.2 ?_
    refine ok_ordL C fun o w4 C => ?_
    refine ok_get (C.arr (i := 0) (xs := nums .u8 c) rfl) (by omega) (n := y) (by rw [Int.toNat_natCast]; exact hy) ?_
    refine ok_get (C.arr (i := 0) (xs := nums .u8 c) rfl) (by omega) (n := x) (by rw [Int.toNat_natCast]; exact hx) ?_
    refine ok_ixO hb (by omega) (by omega) ?_
    rw [Int.toNat_natCast]
    refine ok_wrO C (i := 0) rfl hb (by omega) fun w5 C5 => ?_
    simp only [List.set_cons_zero] at C5
    refine ok_retB ?_
    refine ok_ixO hb (by omega) (by omega) ?_
    rw [Int.toNat_natCast]
    refine ok_wrO C5 (i := 0) rfl hb (by simp; omega) fun w6 C6 => ?_
    refine ok_retB (ok_ret.2 (ok_ret.2 ⟨⟨_, C6, by simp [hl], i + 1, ?_, ?_, by omega, fun k => ?_⟩, ?_⟩))
    · show IntKind.wrap .i64 ((i : Int) + 1) = _
      rw [wrapI_in (by omega)]; simp
    · show IntKind.wrap .i64 ((j : Int) - 1) = _
      rw [wrapI_in (by omega)]; omega
    · have hxi : x = l[i]'(by omega) := by
        have := hc i
        rw [if_neg (by omega), hx, List.getElem?_eq_getElem (by omega)] at this
        exact Option.some.inj this
      have hyj : y = l[j]'(by omega) := by
        have := hc j
        rw [if_neg (by omega), hy, List.getElem?_eq_getElem (by omega)] at this
        exact Option.some.inj this
      by_cases h1 : k = j
      · subst h1
        rw [List.getElem?_set_self (by simp; omega), if_pos (by omega), List.getElem?_reverse (by omega), hxi]
        rw [List.getElem?_eq_getElem (by omega)]
        congr 2; omega
      · rw [List.getElem?_set_ne (by omega)]
        by_cases h3 : k = i
        · subst h3
          rw [List.getElem?_set_self (by omega), if_pos (by omega), List.getElem?_reverse (by omega), hyj]
          rw [List.getElem?_eq_getElem (by omega)]
          congr 2; omega
        · rw [List.getElem?_set_ne (by omega), hc k]
          by_cases h4 : k < i ∨ (l.length ≤ k + i ∧ k < l.length)
          · rw [if_pos h4, if_pos (by omega)]
          · rw [if_neg h4, if_neg (by omega)]
    · show (_ - IntKind.wrap .i64 ((i : Int) + 1)).toNat < _
      rw [wrapI_in (by omega)]; omega
  · refine ok_false (by simpa using hlt) (ok_ret.2 ⟨C.keep, ?_⟩)
    have : c = l.reverse := by
      apply List.ext_getElem?
      intro k
      rw [hc k]
      split
      · rfl
      · by_cases hk : k < l.length
        · rw [List.getElem?_reverse hk]
          congr 1; omega
        · rw [List.getElem?_eq_none (by omega), List.getElem?_eq_none (by simp; omega)]
    rw [← this]
    exact own_raise (C.get (i := 0) rfl) (own_least H)
theorem index_spec {B : Nat} {w : World} {s : Sl} {l : List Int} {x : Int} (H : Arr B w s (nums .u8 l)) (ls : s.len ≤ 1000000000) :
    Ok (f60_slices_Indexbyte_byte s x) w fun r w' => w' = w ∧ ((∃ i : Nat, r = i ∧ l[i]? = some x ∧ ∀ j, j < i → l[j]? ≠ some x) ∨ (r = -1 ∧ x ∉ l)) := by
  unfold f60_slices_Indexbyte_byte
  have el : s.len = l.length := by have := H.1; simpa using this
  refine ok_loop (fun (q : Int) w' => w' = w ∧ ∃ i : Nat, q = i ∧ i ≤ l.length ∧ ∀ j, j < i → l[j]? ≠ some x) (fun q _ => (l.length - q).toNat) ?_ _ _ ⟨rfl, 0, rfl, Nat.zero_le _, fun j hj => by omega⟩
  rintro q w3 ⟨rfl, i, rfl, hi, hn⟩
  by_cases hlt : i < l.length
  · refine ok_true (by simp only [decide_eq_true_eq]; omega) ?_
    obtain ⟨y, hy⟩ := get_some hlt
    refine ok_get H (by omega) (n := y) (by rw [Int.toNat_natCast]; exact hy) ?_
    by_cases hxy : x = y
    · subst hxy
      exact ok_true (by simp) (ok_ret.2 ⟨rfl, .inl ⟨i, rfl, hy, hn⟩⟩)
    · refine ok_false (by simpa using hxy) (ok_ret.2 ⟨⟨rfl, i + 1, by rw [wrapI_in (by omega)]; simp, hlt, fun j hj => ?_⟩, by rw [wrapI_in (by omega)]; omega⟩)
      by_cases hji : j = i
      · subst hji; rw [hy]; simpa using fun h => hxy h.symm
      · exact hn j (by omega)
  · refine ok_false (by simp only [decide_eq_false_iff_not]; omega) (ok_ret.2 ⟨rfl, .inr ⟨rfl, fun hm => ?_⟩⟩)
    obtain ⟨j, hj, hx⟩ := List.getElem_of_mem hm
    exact hn j (by omega) (by rw [List.getElem?_eq_getElem hj, hx])
variable {S : Nat → Prop} {w0 w : World} {R : List It} {α : Type} {Q : α → World → Prop}
theorem step_ok {x : Sl} {n b d : Nat} (C : Cx S w0 w (.own x (nums .u32 (dw n)) :: R)) (lx : x.len ≤ 1000000) (hb : 1 ≤ b) (hb2 : b ≤ 36) (hd : d < b) {f : Sl → M α}
    (hq : ∀ r w', Cx S w0 w' (.own r (nums .u32 (dw (n * b + d))) :: R) → r.len ≤ x.len + 1 → Ok (f r) w' Q) : Ok (bnd (f59_largeint_nat_step x (b : Int) (d : Int)) f) w Q := by
  have hml : maxLen = 9223372036854775807 := by decide
  unfold f59_largeint_nat_step
  have el : x.len = (dw n).length := by have := (C.get (i := 0) rfl).1; simpa using this
  have dn := dw_dg n
  have vn := vw_dw n
  unfold vw at vn
  have hnl := lt_dgs hBW n
  refine ok_bnd.2 ?_
  rw [wrapU_in (n := (d : Int)) (by omega)]
  refine ok_loop (fun (q : Int × Int) w' => ∃ out, Cx S w0 w' (.own x (nums .u32 out) :: R) ∧ out.length = (dw n).length ∧ DW out ∧ 0 ≤ q.1 ∧ q.1 < 36 ∧ ∃ i : Nat, q.2 = i ∧ i ≤ (dw n).length ∧ vl (BW : Int) (out.take i) + (BW : Int) ^ i * q.1 = vl (BW : Int) ((dw n).take i) * b + d ∧ ∀ k, i ≤ k → out[k]? = (dw n)[k]?)
    (fun q _ => ((dw n).length - q.2).toNat) ?_ _ _ ⟨_, C, rfl, dn, by simp only; omega, by simp only; omega, 0, rfl, Nat.zero_le _, by simp [vl], fun _ _ => rfl⟩
  clear C
  rintro ⟨c, q⟩ w3 ⟨out, C, hl, hdo, hc0, hc1, i, rfl, hi, hv, hs⟩
  simp only at hc0 hc1 hv ⊢
  by_cases hlt : i < (dw n).length
  · refine ok_true (by simp only [decide_eq_true_eq]; omega) ?_
    obtain ⟨a, ha⟩ := get_some hlt
    have hoa : out[i]? = some a := (hs i (Nat.le_refl _)).trans ha
    have wa := dn.get ha
    have h1 := wa.1
    have h2 : a < 4294967296 := wa.2
    obtain ⟨bl, hbl⟩ := own_block (C.get (i := 0) rfl) (n := i) (by omega)
    refine ok_ixO hbl (by omega) (by omega) ?_
    rw [Int.toNat_natCast]
    refine ok_ldO C (i := 0) rfl hbl hoa ?_
    refine ok_ixO hbl (by omega) (by omega) ?_
    have hm0 : 0 ≤ a * (b : Int) := Int.mul_nonneg h1 (by omega)
    have hm1 : a * (b : Int) ≤ 4294967295 * 36 := Int.mul_le_mul (by omega) (by omega) (by omega) (by decide)
    rw [Int.toNat_natCast, wrapU_in (n := a) (by omega), wrapU_in (n := (b : Int)) (by omega), wrapU_in (n := a * b) (by omega), wrapU_in (n := a * b + c) (by omega), wrapU32, shr_eq .u64 _ 32 (by decide), show (2 : Int) ^ 32 = 4294967296 from rfl]
    refine ok_wrO C (i := 0) rfl hbl (by omega) fun w5 C5 => ok_ret.2 ⟨⟨_, C5, by simp [hl], hdo.set _ (Int.emod_nonneg _ (by decide)) (Int.emod_lt_of_pos _ (by decide)), ?_, ?_, i + 1, ?_, hlt, ?_, ?_⟩, ?_⟩
    · show 0 ≤ (a * b + c) / 4294967296
      omega
    · show (a * b + c) / 4294967296 < 36
      omega
    · show IntKind.wrap .i64 ((i : Int) + 1) = _
      rw [wrapI_in (by omega)]; simp
    · show _ + _ * ((a * b + c) / 4294967296) = _
      rw [vl_take_set (by omega), vl_take_succ ha, Int.pow_succ, show ((BW : Nat) : Int) = 4294967296 from rfl]
      rw [show ((BW : Nat) : Int) = 4294967296 from rfl] at hv
      have q2 := Int.emod_add_mul_ediv (a * b + c) 4294967296
      generalize (a * b + c) % 4294967296 = A3 at *
      generalize (a * b + c) / 4294967296 = A4 at *
      grind
    · intro k hk
      rw [List.getElem?_set_ne (by omega)]
      exact hs k (by omega)
    · show (_ - IntKind.wrap .i64 ((i : Int) + 1)).toNat < _
      rw [wrapI_in (by omega)]; omega
  have hie : i = (dw n).length := by omega
  subst hie
  refine ok_false (by simp only [decide_eq_false_iff_not]; omega) ?_
  rw [List.take_of_length_le (by omega), List.take_of_length_le (Nat.le_refl _), vn] at hv
  have hvo : vl (BW : Int) out + (BW : Int) ^ (dw n).length * c = ((n * b + d : Nat) : Int) := by
    rw [hv]; simp
  refine ok_bnd.2 (ok_bnd.2 ?_)
  by_cases hc : 0 < c
  · refine ok_true (by simpa using hc) ?_
    rw [wrapU32_in (n := c) ⟨hc0, by omega⟩]
    refine ok_bnd.2 (ok_buildL1 slt50 _ rfl ?_)
    have C1 := C.buildN (e := 67) (vs := [.int .u32 c]) 1 rfl (by decide)
    refine ok_appendO slt50 C1 (i := 1) (s := x) rfl (nums_one out) (arr_src (x := ⟨some ⟨w3.heap.size, 0, none⟩, 1, 1⟩) slt50.under (C1.arr (i := 0) rfl) (by simp [Value.oneCell'])) (show (x.len + 1) * 4 ≤ 140737488355328 by omega) (show x.len + 1 ≤ maxLen by omega) fun r w' C2 hr => ok_ret.2 (ok_ret.2 (ok_ret.2 (hq r w' ?_ (by have h9 : r.len = x.len + 1 := hr; omega))))
    have hval : vl (BW : Int) (out ++ [c]) = ((n * b + d : Nat) : Int) := by rw [vl_concat, hl]; exact hvo
    have hdd : DW (out ++ [c]) := hdo.append (Dg.cons Dg.nil hc0 (by show c < 4294967296; omega))
    have hcn : Cn (out ++ [c]) := by unfold Cn; simp; omega
    have := dgs_vl hBW hdd hcn
    rw [hval, Int.toNat_natCast] at this
    have e : nums .u32 out ++ [Value.int .u32 c] = nums .u32 (dw (n * b + d)) := by
      unfold dw; rw [this]; simp [nums]
    rw [e] at C2
    exact C2.tail
  · have hc' : c = 0 := by omega
    subst hc'
    rw [Int.mul_zero, Int.add_zero] at hvo
    refine ok_false (by simp) (ok_ret.2 (ok_ret.2 (ok_ret.2 (hq x _ ?_ (by omega)))))
    have h1 := vl_lt (b := (BW : Int)) (by decide) hdo
    rw [hl, hvo] at h1
    have h2 : n * b + d < BW ^ (dw n).length := by exact_mod_cast h1
    have h3 : (dw (n * b + d)).length ≤ (dw n).length := dgs_length hBW h2
    have h4 : (dw n).length ≤ (dw (n * b + d)).length := dw_len_mono (Nat.le_trans (Nat.le_mul_of_pos_right n (by omega)) (Nat.le_add_right _ _))
    have : out = dw (n * b + d) := vl_inj (b := (BW : Int)) (by decide) hdo (dw_dg _) (by omega) (by rw [hvo]; exact (vw_dw _).symm)
    rw [← this]
    exact C
end Go.Proofs.Ytoekfjgikicclaa
