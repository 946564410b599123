/-
  Part of the proof: B32
-/
import Derived.Test.YtpgalllceejpnaaB30
set_option linter.unusedSimpArgs false
set_option linter.unusedVariables false
namespace Go.Proofs.Ytpgalllceejpnaa
set_option linter.unusedVariables false
open Go.Sh Go.RowKit
theorem forms_law (f : Form) (x y p rule s d : Int) (w : World) (hf : Held w shF f) (hx : Held w (.int .i64) x) (hy : Held w (.int .i64) y) (hp : Held w (.int .u32) p) (hs : Held w (.int .u32) s) (hd : Held w (.int .u32) d) :
    Ok (f3_palaverlaw11_BitForms f x y p rule s d) w fun r w' => r = true ∧ Below w.heap.size w w' := by
  obtain ⟨l, H, hl⟩ := held_words hf
  exact forms_spec f x y p rule s d l w H hl (wf_i64 hx) (wf_i64 hy) (wf_u32 hp) (wf_u32 hs) (wf_u32 hd)
end Go.Proofs.Ytpgalllceejpnaa

namespace Go.Proofs.Ytpgalllceejpnaa
set_option linter.unusedVariables false
open Go.Sh Go.RowKit
set_option maxRecDepth 100000
/-! ### The reference: what forbids a blit; which pixels are left -/
theorem slt90 : SlT Try.prog 90 3 (.int .i64 0) 8 := ⟨Try.underlying90, ⟨_, (by kernel_rfl : Try.prog.info? 3 = some Try.t3), rfl, rfl, rfl⟩, rfl⟩
abbrev ints (l : List Int) : List Value := l.map (.int .i64)
theorem ints_one (l : List Int) : ∀ u ∈ ints l, u.oneCell' = true := by
  intro u hu
  obtain ⟨n, _, rfl⟩ := List.mem_map.1 hu
  rfl
theorem ok_build8 (a b c d e f g h : Int) {w : World} {Q : Sl → World → Prop} (hq : Q ⟨some ⟨w.heap.size, 0, none⟩, 8, 8⟩ (w.alloc (.cells (ints [a, b, c, d, e, f, g, h]).toArray 3))) :
    Ok (runV Try.prog .sl (Instr.buildSlice 90 8 #[(0, .int .i64 a), (1, .int .i64 b), (2, .int .i64 c), (3, .int .i64 d), (4, .int .i64 e), (5, .int .i64 f), (6, .int .i64 g), (7, .int .i64 h)])) w Q := by
  obtain ⟨i, hi, hs, hz, hb⟩ := slt90.info
  refine ok_runV (v := .slice (some ⟨w.heap.size, 0, none⟩) 8 8) (w' := w.alloc (.cells (ints [a, b, c, d, e, f, g, h]).toArray 3)) ?_ rfl hq
  simp [Instr.buildSlice, run_underlying slt90.under, sizeOf, typeInfo, zeroValue, hi, hz, hs, Instr.fill, newRow, Value.cells]
  rw [show (Array.range 8) = #[0, 1, 2, 3, 4, 5, 6, 7] from by decide]
  simp
theorem ok_build2i (a b : Int) {w : World} {Q : Sl → World → Prop} (hq : Q ⟨some ⟨w.heap.size, 0, none⟩, 2, 2⟩ (w.alloc (.cells (ints [a, b]).toArray 3))) :
    Ok (runV Try.prog .sl (Instr.buildSlice 90 2 #[(0, .int .i64 a), (1, .int .i64 b)])) w Q := by
  obtain ⟨i, hi, hs, hz, hb⟩ := slt90.info
  refine ok_runV (v := .slice (some ⟨w.heap.size, 0, none⟩) 2 2) (w' := w.alloc (.cells (ints [a, b]).toArray 3)) ?_ rfl hq
  simp [Instr.buildSlice, run_underlying slt90.under, sizeOf, typeInfo, zeroValue, hi, hz, hs, Instr.fill, newRow, Value.cells]
  rw [show (Array.range 2) = #[0, 1] from by decide]
  simp
theorem own_fresh (w : World) (e : TypeId) (c : List Value) (hc : c.length ≤ maxLen) : Own w.heap.size (w.alloc (.cells c.toArray e)) ⟨some ⟨w.heap.size, 0, none⟩, c.length, c.length⟩ c :=
  ⟨rfl, Nat.le_refl _, hc, .inr ⟨_, _, rfl, Nat.le_refl _, by rw [blk_alloc, if_pos rfl], by rw [fre_alloc, if_pos rfl], by simp, fun i hi => by rw [List.getElem?_toArray]⟩⟩
/-- The numbers that the reference looks at. -/
def refNums (b : Blit) (src : Bool) : List Int := [b.2.1, b.2.2.1, b.2.2.2.1, b.2.2.2.2.1, b.2.2.2.2.2.2.2.1, b.2.2.2.2.2.2.2.2.1, b.2.2.2.2.2.2.2.2.2.1, b.2.2.2.2.2.2.2.2.2.2.1] ++ (if src then [b.2.2.2.2.2.1, b.2.2.2.2.2.2.1] else [])
theorem bounds_spec (b : Blit) (src : Bool) (w : World) : Ok (f59_palaverref11_bounds b src) w fun r w' => r = decide ((∀ n ∈ refNums b src, Far n) ∧ (tone b).len ≤ 4096) ∧ Below w.heap.size w w' := by
  unfold f59_palaverref11_bounds
  have C := Cx.nil No w
  refine ok_newL C fun p1 w1 C => ?_
  refine ok_rdL C 0 rfl (x := b.2.1) rfl ?_
  refine ok_rdL C 0 rfl (x := b.2.2.1) rfl ?_
  refine ok_rdL C 0 rfl (x := b.2.2.2.1) rfl ?_
  refine ok_rdL C 0 rfl (x := b.2.2.2.2.1) rfl ?_
  refine ok_rdL C 0 rfl (x := b.2.2.2.2.2.2.2.1) rfl ?_
  refine ok_rdL C 0 rfl (x := b.2.2.2.2.2.2.2.2.1) rfl ?_
  refine ok_rdL C 0 rfl (x := b.2.2.2.2.2.2.2.2.2.1) rfl ?_
  refine ok_rdL C 0 rfl (x := b.2.2.2.2.2.2.2.2.2.2.1) rfl ?_
  refine ok_bnd.2 (ok_build8 _ _ _ _ _ _ _ _ ?_)
  have O := own_fresh w1 3 (ints [b.2.1, b.2.2.1, b.2.2.2.1, b.2.2.2.2.1, b.2.2.2.2.2.2.2.1, b.2.2.2.2.2.2.2.2.1, b.2.2.2.2.2.2.2.2.2.1, b.2.2.2.2.2.2.2.2.2.2.1]) (show 8 ≤ maxLen by decide)
  have C := C.addOwn ((Below.refl _ _).alloc (Nat.le_refl _) _) O
  generalize w1.alloc (.cells (ints [b.2.1, b.2.2.1, b.2.2.2.1, b.2.2.2.2.1, b.2.2.2.2.2.2.2.1, b.2.2.2.2.2.2.2.2.1, b.2.2.2.2.2.2.2.2.2.1, b.2.2.2.2.2.2.2.2.2.2.1]).toArray 3) = w2 at C ⊢
  refine ok_bnd.2 (ok_mono (Q := fun r w' => Cx No w w' [.own r (ints (refNums b src)), .cells p1 (cellsBlit b)]) ?_ ?_)
  · cases src with
    | false => exact ok_false rfl (ok_ret.2 C)
    | true =>
      refine ok_true rfl ?_
      refine ok_rdL C 1 rfl (x := b.2.2.2.2.2.1) rfl ?_
      refine ok_rdL C 1 rfl (x := b.2.2.2.2.2.2.1) rfl ?_
      refine ok_bnd.2 (ok_build2i _ _ ?_)
      have O2 := own_fresh w2 3 (ints [b.2.2.2.2.2.1, b.2.2.2.2.2.2.1]) (show 2 ≤ maxLen by decide)
      have C2 := C.addOwn ((Below.refl _ _).alloc (Nat.le_refl _) _) O2
      generalize w2.alloc (.cells (ints [b.2.2.2.2.2.1, b.2.2.2.2.2.2.1]).toArray 3) = w3 at C2 ⊢
      refine ok_appendO slt90 C2 (i := 1) rfl (ints_one _) (arr_src slt90.under (C2.arr (i := 0) rfl) (ints_one _)) (show (8 + 2) * 8 ≤ 140737488355328 by decide) (show 8 + 2 ≤ maxLen by decide) fun r w4 C3 hr => ok_ret.2 ?_
      have := C3.tail
      exact this
  rintro r w3 C
  have hrl : r.len = (refNums b src).length := by have := (C.get (i := 0) rfl).1; simpa using this
  have hlen : (refNums b src).length ≤ 10 := by cases src <;> simp [refNums]
  refine ok_loop (fun (i : Int) w' => w' = w3 ∧ 0 ≤ i ∧ i ≤ (refNums b src).length ∧ ∀ (j : Nat) n, (j : Int) < i → (refNums b src)[j]? = some n → Far n) (fun i _ => ((refNums b src).length - i).toNat) ?_ _ _ ⟨rfl, Int.le_refl _, by omega, fun j n h => by omega⟩
  rintro i w4 ⟨rfl, h0, h1, h2⟩
  obtain ⟨n, rfl⟩ := Int.eq_ofNat_of_zero_le h0
  by_cases hn : n < (refNums b src).length
  · refine ok_true (by rw [hrl]; simpa using hn) ?_
    obtain ⟨v, hv⟩ : ∃ v, (refNums b src)[n]? = some v := ⟨_, List.getElem?_eq_getElem hn⟩
    refine ok_get (C.arr (i := 0) rfl) h0 (by rw [Int.toNat_natCast]; exact hv) ?_
    refine ok_or (decide (v > 1000000)) (fun _ => ok_get (C.arr (i := 0) rfl) h0 (by rw [Int.toNat_natCast]; exact hv) (ok_ret.2 ⟨rfl, rfl⟩)) ?_
    by_cases hf : Far v
    · have hf' := hf
      unfold Far at hf'
      refine ok_false (by simp only [Bool.or_eq_false_iff, decide_eq_false_iff_not]; omega) (ok_ret.2 ?_)
      rw [wrapI_in (n := (n : Int) + 1) (by omega)]
      refine ⟨⟨rfl, by omega, by omega, fun j m hj hm => ?_⟩, by omega⟩
      by_cases hjn : j = n
      · subst hjn; rw [hv] at hm; cases hm; exact hf
      · exact h2 j m (by omega) hm
    · have hf' := hf
      unfold Far at hf'
      refine ok_true (by simp only [Bool.or_eq_true, decide_eq_true_eq]; omega) (ok_ret.2 ⟨?_, C.below⟩)
      exact (decide_eq_false (fun h => hf (h.1 v (List.mem_of_getElem? hv)))).symm
  · have hnl : n = (refNums b src).length := by omega
    refine ok_false (by rw [hrl]; simpa using hn) (ok_bnd.2 ?_)
    refine ok_rdL C 1 rfl (x := tone b) rfl (ok_ret.2 (ok_ret.2 ⟨?_, C.below⟩))
    have hall : ∀ m ∈ refNums b src, Far m := fun m hm => by
      obtain ⟨j, hj, rfl⟩ := List.getElem_of_mem hm
      exact h2 j _ (by omega) (List.getElem?_eq_getElem hj)
    refine decide_eq_decide.2 ⟨fun h => ⟨hall, by omega⟩, fun h => by have := h.2; omega⟩
theorem refNums_true (b : Blit) : (∀ n ∈ refNums b true, Far n) ↔ ∀ n ∈ nums b, Far n := by
  simp only [refNums, nums, if_true, List.cons_append, List.nil_append, List.mem_cons, List.not_mem_nil, or_false, forall_eq_or_imp, forall_eq]
  constructor
  · rintro ⟨h1, h2, h3, h4, h5, h6, h7, h8, h9, h10⟩; exact ⟨h1, h2, h3, h4, h9, h10, h5, h6, h7, h8⟩
  · rintro ⟨h1, h2, h3, h4, h5, h6, h7, h8, h9, h10⟩; exact ⟨h1, h2, h3, h4, h7, h8, h9, h10, h5, h6⟩
theorem wrong_spec (d s : Form) (b : Blit) (w : World) : Ok (f55_palaverref11_wrong d s b) w fun r w' => r = errC d s b ∧ Below w.heap.size w w' := by
  unfold f55_palaverref11_wrong
  have C := Cx.nil No w
  refine ok_newL C fun p1 w1 C => ok_newL C fun p2 w2 C => ok_newL C fun p3 w3 C => ?_
  refine ok_rdL0 C 2 rfl (x := d) rfl ?_
  refine ok_callL C (refcheck_spec d w3) (fun _ _ h => h.2) fun r w4 hr C => ?_
  obtain ⟨rfl, _⟩ := hr
  unfold errC
  by_cases gd : Good d
  rotate_left
  · rw [if_neg (fun h => gd h.1)]
    unfold errS; rw [if_neg gd]
    exact ok_true (by decide) (ok_ret.2 ⟨rfl, C.below⟩)
  refine ok_false (by unfold errS; rw [if_pos gd]; rfl) ?_
  refine ok_rdL0 C 1 rfl (x := s) rfl ?_
  refine ok_callL C (refcheck_spec s w4) (fun _ _ h => h.2) fun r w5 hr C => ?_
  obtain ⟨rfl, _⟩ := hr
  by_cases gs : Good s
  rotate_left
  · rw [if_neg (fun h => gs h.2.1)]
    unfold errS; rw [if_neg gs]
    exact ok_true (by decide) (ok_ret.2 ⟨rfl, C.below⟩)
  refine ok_false (by unfold errS; rw [if_pos gs]; rfl) ?_
  refine ok_rdL C 2 rfl (x := d.2.2.1) rfl ?_
  refine ok_rdL C 1 rfl (x := s.2.2.1) rfl ?_
  by_cases hdep : d.2.2.1 = s.2.2.1
  rotate_left
  · rw [if_neg (fun h => hdep h.2.2)]
    exact ok_true (by simpa using hdep) (ok_ret.2 ⟨rfl, C.below⟩)
  refine ok_false (by simpa using hdep) ?_
  rw [if_pos ⟨gd, gs, hdep⟩]
  refine ok_rdL C 0 rfl (x := b.1) rfl ?_
  refine ok_or (decide (b.1 > 15)) (fun _ => ok_rdL C 0 rfl rfl (ok_ret.2 ⟨rfl, rfl⟩)) ?_
  unfold errB
  by_cases hr : 0 ≤ b.1 ∧ b.1 ≤ 15
  rotate_left
  · rw [if_neg hr]
    exact ok_true (by simp only [Bool.or_eq_true, decide_eq_true_eq]; omega) (ok_ret.2 ⟨rfl, C.below⟩)
  rw [if_pos hr]
  refine ok_false (by simp only [Bool.or_eq_false_iff, decide_eq_false_iff_not]; omega) ?_
  refine ok_rdL0 C 0 rfl (x := b) rfl ?_
  refine ok_callL C (bounds_spec b true w5) (fun _ _ h => h.2) fun r w6 hr C => ?_
  obtain ⟨rfl, _⟩ := hr
  simp only [refNums_true]
  by_cases hb : (∀ n ∈ nums b, Far n) ∧ (tone b).len ≤ 4096
  · rw [if_pos hb]
    exact ok_false (by rw [decide_eq_true hb]; rfl) (ok_ret.2 ⟨rfl, C.below⟩)
  · rw [if_neg hb]
    exact ok_true (by rw [decide_eq_false hb]; rfl) (ok_ret.2 ⟨rfl, C.below⟩)
/-- Is a pixel left? -/
def Left (d s : Form) (b : Blit) (x y : Int) : Prop :=
  (b.2.1 ≤ x ∧ x < b.2.1 + b.2.2.2.1 ∧ b.2.2.1 ≤ y ∧ y < b.2.2.1 + b.2.2.2.2.1) ∧
  (b.2.2.2.2.2.2.2.1 ≤ x ∧ x < b.2.2.2.2.2.2.2.1 + b.2.2.2.2.2.2.2.2.2.1 ∧ b.2.2.2.2.2.2.2.2.1 ≤ y ∧ y < b.2.2.2.2.2.2.2.2.1 + b.2.2.2.2.2.2.2.2.2.2.1) ∧
  ((0 ≤ x ∧ x < d.1) ∧ (0 ≤ y ∧ y < d.2.1)) ∧
  ((0 ≤ b.2.2.2.2.2.1 + x - b.2.1 ∧ b.2.2.2.2.2.1 + x - b.2.1 < s.1) ∧ (0 ≤ b.2.2.2.2.2.2.1 + y - b.2.2.1 ∧ b.2.2.2.2.2.2.1 + y - b.2.2.1 < s.2.1))
instance (d s : Form) (b : Blit) (x y : Int) : Decidable (Left d s b x y) := by unfold Left; infer_instance
theorem left_spec (d s : Form) (b : Blit) (x y : Int) (w : World) (hf : ∀ n ∈ nums b, Far n) (hx : 0 ≤ x ∧ x ≤ 4096) (hy : 0 ≤ y ∧ y ≤ 4096) : Ok (f56_palaverref11_left d s b x y) w fun r w' => r = decide (Left d s b x y) ∧ Below w.heap.size w w' := by
  unfold f56_palaverref11_left
  simp only [nums, List.mem_cons, List.not_mem_nil, or_false, forall_eq_or_imp, forall_eq] at hf
  unfold Far at hf
  obtain ⟨f1, f2, f3, f4, f5, f6, f7, f8, f9, f10⟩ := hf
  have C := Cx.nil No w
  refine ok_newL C fun p1 w1 C => ok_newL C fun p2 w2 C => ok_newL C fun p3 w3 C => ?_
  refine ok_rdL C 0 rfl (x := b.2.2.2.2.2.1) rfl ?_
  refine ok_rdL C 0 rfl (x := b.2.1) rfl ?_
  refine ok_rdL C 0 rfl (x := b.2.2.2.2.2.2.1) rfl ?_
  refine ok_rdL C 0 rfl (x := b.2.2.1) rfl ?_
  refine ok_rdL C 0 rfl (x := b.2.1) rfl ?_
  rw [wrapI_in (n := b.2.2.2.2.2.1 + x) (by omega), wrapI_in (n := b.2.2.2.2.2.1 + x - b.2.1) (by omega), wrapI_in (n := b.2.2.2.2.2.2.1 + y) (by omega), wrapI_in (n := b.2.2.2.2.2.2.1 + y - b.2.2.1) (by omega)]
  refine ok_and (decide (x < b.2.1 + b.2.2.2.1)) (fun _ => ok_rdL C 0 rfl rfl (ok_rdL C 0 rfl rfl (ok_ret.2 ⟨by rw [wrapI_in (by omega)], rfl⟩))) ?_
  refine ok_and (decide (b.2.2.1 ≤ y)) (fun _ => ok_rdL C 0 rfl rfl (ok_ret.2 ⟨rfl, rfl⟩)) ?_
  refine ok_and (decide (y < b.2.2.1 + b.2.2.2.2.1)) (fun _ => ok_rdL C 0 rfl rfl (ok_rdL C 0 rfl rfl (ok_ret.2 ⟨by rw [wrapI_in (by omega)], rfl⟩))) ?_
  refine ok_rdL C 0 rfl (x := b.2.2.2.2.2.2.2.1) rfl ?_
  refine ok_and (decide (x < b.2.2.2.2.2.2.2.1 + b.2.2.2.2.2.2.2.2.2.1)) (fun _ => ok_rdL C 0 rfl rfl (ok_rdL C 0 rfl rfl (ok_ret.2 ⟨by rw [wrapI_in (by omega)], rfl⟩))) ?_
  refine ok_and (decide (b.2.2.2.2.2.2.2.2.1 ≤ y)) (fun _ => ok_rdL C 0 rfl rfl (ok_ret.2 ⟨rfl, rfl⟩)) ?_
  refine ok_and (decide (y < b.2.2.2.2.2.2.2.2.1 + b.2.2.2.2.2.2.2.2.2.2.1)) (fun _ => ok_rdL C 0 rfl rfl (ok_rdL C 0 rfl rfl (ok_ret.2 ⟨by rw [wrapI_in (by omega)], rfl⟩))) ?_
  refine ok_and (decide (x < d.1)) (fun _ => ok_rdL C 2 rfl rfl (ok_ret.2 ⟨rfl, rfl⟩)) ?_
  refine ok_and (decide (y < d.2.1)) (fun _ => ok_rdL C 2 rfl rfl (ok_ret.2 ⟨rfl, rfl⟩)) ?_
  refine ok_and (decide (b.2.2.2.2.2.1 + x - b.2.1 < s.1)) (fun _ => ok_rdL C 1 rfl rfl (ok_ret.2 ⟨rfl, rfl⟩)) ?_
  refine ok_and (decide (b.2.2.2.2.2.2.1 + y - b.2.2.1 < s.2.1)) (fun _ => ok_rdL C 1 rfl rfl (ok_ret.2 ⟨rfl, rfl⟩)) ?_
  refine ok_ret.2 ⟨eq_dec ?_, C.below⟩
  simp only [Bool.cond_false_right, ge_iff_le, Bool.and_eq_true, decide_eq_true_eq]
  unfold Left
  omega
/-- What is left is a rectangle. -/
theorem span_iff (x0 x1 x2 x3 x4 x5 x6 x : Int) (h0 : Far x0) (h1 : Far x1) (h2 : Far x2) (h3 : Far x3) (h4 : Far x4) (h5 : 0 ≤ x5 ∧ x5 ≤ 4096) (h6 : 0 ≤ x6 ∧ x6 ≤ 4096) :
    ((Gf54_bitblt_span x0 x1 x2 x3 x4 x5 x6).1 ≤ x ∧ x < (Gf54_bitblt_span x0 x1 x2 x3 x4 x5 x6).1 + (Gf54_bitblt_span x0 x1 x2 x3 x4 x5 x6).2.2) ↔
      (x0 ≤ x ∧ x < x0 + x1) ∧ (x3 ≤ x ∧ x < x3 + x4) ∧ (0 ≤ x ∧ x < x5) ∧ (0 ≤ x2 + x - x0 ∧ x2 + x - x0 < x6) := by
  unfold Far at *
  simp only [Gf54_bitblt_span]
  rw [wrapI_in (n := x0 - x2) (by omega), wrapI_in (n := x0 + x1) (by omega), wrapI_in (n := x3 + x4) (by omega), wrapI_in (n := x0 - x2 + x6) (by omega)]
  obtain ⟨A, hA⟩ : ∃ A, A = maxI (maxI (maxI x0 x3) 0) (x0 - x2) := ⟨_, rfl⟩
  obtain ⟨B, hB⟩ : ∃ B, B = minI (minI (minI (x0 + x1) (x3 + x4)) x5) (x0 - x2 + x6) := ⟨_, rfl⟩
  rw [← hA, ← hB]
  have a1 : ∀ z, A ≤ z ↔ x0 ≤ z ∧ x3 ≤ z ∧ 0 ≤ z ∧ x0 - x2 ≤ z := fun z => by rw [hA]; unfold maxI; repeat' split <;> omega
  have b1 : ∀ z, z < B ↔ z < x0 + x1 ∧ z < x3 + x4 ∧ z < x5 ∧ z < x0 - x2 + x6 := fun z => by rw [hB]; unfold minI; repeat' split <;> omega
  have a2 := (a1 A).1 (Int.le_refl _)
  have hAb : -3000000 ≤ A ∧ A ≤ 3000000 := by
    have := a1 2000000
    have : A ≤ 2000000 := this.2 (by omega)
    omega
  have hBb : -3000000 ≤ B ∧ B ≤ 3000000 := by
    have h1 := b1 (-3000000)
    have h2 := b1 3000000
    have : -3000000 < B := h1.2 (by omega)
    have : ¬ 3000000 < B := fun h => by have := h2.1 h; omega
    omega
  rw [wrapI_in (n := B - A) (by omega)]
  have := a1 x
  have := b1 x
  omega
theorem left_iff {d s : Form} {b : Blit} (he : errC d s b = 0) (x y : Int) : Left d s b x y ↔
    ((spanX d s b).1 ≤ x ∧ x < (spanX d s b).1 + (spanX d s b).2.2) ∧ ((spanY d s b).1 ≤ y ∧ y < (spanY d s b).1 + (spanY d s b).2.2) := by
  obtain ⟨gd, gs, hdep, hb⟩ := errC_ok he
  obtain ⟨hr, hf, _⟩ := errB_ok hb
  simp only [nums, List.mem_cons, List.not_mem_nil, or_false, forall_eq_or_imp, forall_eq] at hf
  obtain ⟨f1, f2, f3, f4, f5, f6, f7, f8, f9, f10⟩ := hf
  unfold spanX spanY
  rw [span_iff _ _ _ _ _ d.1 s.1 x f1 f3 f5 f7 f9 gd.1.2.1 gs.1.2.1, span_iff _ _ _ _ _ d.2.1 s.2.1 y f2 f4 f6 f8 f10 gd.1.2.2.1 gs.1.2.2.1]
  unfold Left
  omega
end Go.Proofs.Ytpgalllceejpnaa
