/-
  Part of the proof: B11
-/
import Derived.Test.YtpgalllceejpnaaB10
set_option linter.unusedSimpArgs false
set_option linter.unusedVariables false
namespace Go.Proofs.Ytpgalllceejpnaa
set_option linter.unusedVariables false
open Go.Sh Go.RowKit
set_option maxRecDepth 100000
theorem same_bits (a b : Sl) (la lb : List Int) (w : World) {B : Nat} (Ha : Arr B w a (wds la)) (Hb : Arr B w b (wds lb)) : Ok (f27_palaverref00_SameBits a b) w fun r w' => r = decide (la = lb) ∧ Below w.heap.size w w' := by
  have ea : a.len = la.length := by have := Ha.1; simpa using this
  have eb : b.len = lb.length := by have := Hb.1; simpa using this
  have hmx : la.length ≤ 9223372036854775807 := by have h1 := Ha.2.1; have h2 := Ha.2.2.1; simp only [maxLen] at h2; omega
  unfold f27_palaverref00_SameBits
  by_cases hl : la.length = lb.length
  · refine ok_false (by simp [ea, eb, hl]) ?_
    refine ok_loop (fun (s : Int) w' => 0 ≤ s ∧ s ≤ la.length ∧ (∀ j, j < s.toNat → la[j]? = lb[j]?) ∧ Below w.heap.size w w') (fun (s : Int) _ => (la.length - s).toNat) ?_ _ _ ⟨Int.le_refl _, by omega, fun j hj => by simp at hj, Below.refl _ _⟩
    rintro s w1 ⟨h0, h1, h2, hB⟩
    by_cases hs : s < la.length
    · refine ok_true (by simp [ea, hs]) (ok_bnd.2 (ok_drawM.2 ?_))
      have Ha1 := arr_below (arr_size Ha) hB.drew
      have Hb1 := arr_below (arr_size Hb) hB.drew
      obtain ⟨x, hx⟩ : ∃ x, la[s.toNat]? = some x := ⟨_, List.getElem?_eq_getElem (by omega)⟩
      obtain ⟨y, hy⟩ : ∃ y, lb[s.toNat]? = some y := ⟨_, List.getElem?_eq_getElem (by omega)⟩
      refine ok_get Ha1 h0 hx (ok_get Hb1 h0 hy ?_)
      by_cases hxy : x = y
      · subst hxy
        refine ok_false (by simp) (ok_ret.2 ?_)
        rw [wrapI_in (by omega)]
        refine ⟨⟨by omega, by omega, fun j hj => ?_, hB.drew⟩, by omega⟩
        by_cases hjs : j = s.toNat
        · subst hjs; rw [hx, hy]
        · exact h2 j (by omega)
      · refine ok_true (by simp [hxy]) (ok_ret.2 ⟨?_, hB.drew⟩)
        exact eq_dec (by simp only [Bool.false_eq_true, false_iff]; rintro rfl; rw [hx] at hy; cases hy; exact hxy rfl)
    · refine ok_false (by simp [ea, hs]) (ok_ret.2 ⟨?_, hB⟩)
      exact eq_dec (by
        simp only [true_iff]
        refine List.ext_getElem? fun j => ?_
        by_cases hj : j < la.length
        · exact h2 j (by omega)
        · rw [List.getElem?_eq_none (by omega), List.getElem?_eq_none (by omega)])
  · refine ok_true (by simp [ea, eb]; omega) (ok_ret.2 ⟨?_, Below.refl _ _⟩)
    exact eq_dec (by simp only [Bool.false_eq_true, false_iff]; rintro rfl; exact hl rfl)
theorem same_spec (f g : Form) (la lb : List Int) (w : World) (Ha : Arr w.heap.size w f.2.2.2 (wds la)) (Hb : Arr w.heap.size w g.2.2.2 (wds lb)) : Ok (f12_palaverlaw11_same f g) w fun r w' => r = decide (la = lb ∧ f.1 = g.1 ∧ f.2.1 = g.2.1 ∧ f.2.2.1 = g.2.2.1) ∧ Below w.heap.size w w' := by
  unfold f12_palaverlaw11_same
  refine ok_bnd.2 (ok_newForm (h := f) fun w1 h1 B1 s1 => ?_)
  refine ok_bnd.2 (ok_newForm (h := g) fun w2 h2 B2 s2 => ?_)
  have h1 := hasForm_size h1 B2
  have B2 := B1.trans (B2.mono (by omega))
  refine ok_bnd.2 (ok_Form3 h1 (ok_bnd.2 (ok_Form3 h2 (ok_bnd.2 (ok_mono (same_bits _ _ la lb w2 (arr_below Ha B2) (arr_below Hb B2)) ?_)))))
  rintro r w3 ⟨rfl, B3⟩
  have h1 := hasForm_size h1 B3
  have h2 := hasForm_size h2 B3
  have B3 := B2.trans (B3.mono (by omega))
  refine ok_bnd.2 (ok_mono (Q := fun r w' => r = decide (la = lb ∧ f.1 = g.1) ∧ w3 = w') ?_ ?_)
  · by_cases hh : la = lb
    · exact ok_true (by simp [hh]) (ok_bnd.2 (ok_Form0 h1 (ok_bnd.2 (ok_Form0 h2 (ok_ret.2 ⟨eq_dec (by simp [hh]), rfl⟩)))))
    · exact ok_false (by simp [hh]) (ok_ret.2 ⟨by simp [hh], rfl⟩)
  rintro r w4 ⟨rfl, rfl⟩
  refine ok_bnd.2 (ok_mono (Q := fun r w' => r = decide (la = lb ∧ f.1 = g.1 ∧ f.2.1 = g.2.1) ∧ w3 = w') ?_ ?_)
  · by_cases hh : la = lb ∧ f.1 = g.1
    · exact ok_true (by simp [hh]) (ok_bnd.2 (ok_Form1 h1 (ok_bnd.2 (ok_Form1 h2 (ok_ret.2 ⟨eq_dec (by simp [hh]), rfl⟩)))))
    · exact ok_false (by simpa using hh) (ok_ret.2 ⟨eq_dec (by simp only [Bool.false_eq_true, false_iff]; exact fun h => hh ⟨h.1, h.2.1⟩), rfl⟩)
  rintro r w4 ⟨rfl, rfl⟩
  refine ok_bnd.2 (ok_mono (Q := fun r w' => r = decide (la = lb ∧ f.1 = g.1 ∧ f.2.1 = g.2.1 ∧ f.2.2.1 = g.2.2.1) ∧ w3 = w') ?_ ?_)
  · by_cases hh : la = lb ∧ f.1 = g.1 ∧ f.2.1 = g.2.1
    · exact ok_true (by simp [hh]) (ok_bnd.2 (ok_Form2 h1 (ok_bnd.2 (ok_Form2 h2 (ok_ret.2 ⟨eq_dec (by simp [hh]), rfl⟩)))))
    · exact ok_false (by simpa using hh) (ok_ret.2 ⟨eq_dec (by simp only [Bool.false_eq_true, false_iff]; exact fun h => hh ⟨h.1, h.2.1, h.2.2.1⟩), rfl⟩)
  rintro r w4 ⟨rfl, rfl⟩
  exact ok_ret.2 ⟨rfl, B3⟩
theorem far_spec (f g : Form) (w : World) : Ok (f9_palaverlaw11_far f g) w fun r w' => r = decide (2097152 < f.2.2.2.len ∨ 2097152 < g.2.2.2.len) ∧ Below w.heap.size w w' := by
  unfold f9_palaverlaw11_far
  refine ok_bnd.2 (ok_newForm (h := f) fun w1 h1 B1 s1 => ?_)
  refine ok_bnd.2 (ok_newForm (h := g) fun w2 h2 B2 s2 => ?_)
  have h1 := hasForm_size h1 B2
  have B2 := B1.trans (B2.mono (by omega))
  refine ok_bnd.2 (ok_Form3 h1 (ok_bnd.2 ?_))
  refine ok_mono (Q := fun r w' => r = decide (2097152 < f.2.2.2.len ∨ 2097152 < g.2.2.2.len) ∧ w2 = w') ?_ ?_
  · refine ok_cnd.2 ⟨fun h => ok_ret.2 ⟨?_, rfl⟩, fun h => ok_bnd.2 (ok_Form3 h2 (ok_ret.2 ⟨?_, rfl⟩))⟩
    · have h := of_decide_eq_true h
      exact eq_dec (by simp only [true_iff]; omega)
    · have h := of_decide_eq_false h
      exact eq_dec (by rw [decide_eq_true_iff]; omega)
  rintro r w4 ⟨rfl, rfl⟩
  exact ok_ret.2 ⟨rfl, B2⟩
theorem ok_build2 (x y : Int) {w : World} {Q : Sl → World → Prop} (hq : Q ⟨some ⟨w.heap.size, 0, none⟩, 2, 2⟩ (w.alloc (.cells #[.int .u32 x, .int .u32 y] 25))) : Ok (runV Try.prog .sl (Instr.buildSlice 22 2 #[(0, .int .u32 x), (1, .int .u32 y)])) w Q := by
  obtain ⟨i, hi, hs, hz, hb⟩ := slt.info
  refine ok_runV (v := .slice (some ⟨w.heap.size, 0, none⟩) 2 2) (w' := w.alloc (.cells #[.int .u32 x, .int .u32 y] 25)) ?_ rfl hq
  simp [Instr.buildSlice, run_underlying slt.under, sizeOf, typeInfo, zeroValue, hi, hz, hs, Instr.fill, newRow, Value.cells]
  rw [show (Array.range 2) = #[0, 1] from by decide]
  simp
theorem ok_build1 (x : Int) {w : World} {Q : Sl → World → Prop} (hq : Q ⟨some ⟨w.heap.size, 0, none⟩, 1, 1⟩ (w.alloc (.cells #[.int .u32 x] 25))) : Ok (runV Try.prog .sl (Instr.buildSlice 22 1 #[(0, .int .u32 x)])) w Q := by
  obtain ⟨i, hi, hs, hz, hb⟩ := slt.info
  refine ok_runV (v := .slice (some ⟨w.heap.size, 0, none⟩) 1 1) (w' := w.alloc (.cells #[.int .u32 x] 25)) ?_ rfl hq
  simp [Instr.buildSlice, run_underlying slt.under, sizeOf, typeInfo, zeroValue, hi, hz, hs, Instr.fill, newRow, Value.cells]
  rw [show (Array.range 1) = #[0] from by decide]
  simp
theorem lent_spec (s : Sl) (l : List Int) (w : World) (H : Arr w.heap.size w s (wds l)) (hl : s.len ≤ 2097152) : Ok (f13_palaverref00_LentBits s) w fun r w' => Below w.heap.size w w' ∧ r = ⟨some ⟨w.heap.size, 0, none⟩, l.length, l.length + 2⟩ ∧ blk w' w.heap.size = some (wds l ++ [Value.int .u32 8999229, Value.int .u32 8999228]).toArray ∧ fre w' w.heap.size = true := by
  have es : s.len = l.length := by have := H.1; simpa using this
  unfold f13_palaverref00_LentBits
  rw [wrapI_in (n := (s.len : Int) + 2) (by omega)]
  refine ok_bnd.2 (ok_make slt (by decide) (by omega) (by omega) (by omega) ?_)
  obtain ⟨c0, hc0⟩ : ∃ c0, c0 = (List.replicate ((s.len : Int) + 2).toNat (Value.int .u32 0)).toArray := ⟨_, rfl⟩
  have hsz0 : c0.size = s.len + 2 := by rw [hc0]; simp; omega
  rw [← hc0]
  have hB1 : Below w.heap.size w (w.alloc (.cells c0 25)) := (Below.refl _ _).alloc (Nat.le_refl _) _
  have hb1 : blk (w.alloc (.cells c0 25)) w.heap.size = some c0 := by rw [blk_alloc, if_pos rfl]
  have hf1 : fre (w.alloc (.cells c0 25)) w.heap.size = true := by rw [fre_alloc, if_pos rfl]
  have hz1 : (w.alloc (.cells c0 25)).heap.size = w.heap.size + 1 := by simp
  have A1 := arr_below H hB1
  generalize w.alloc (.cells c0 25) = w1 at hB1 hb1 hf1 hz1 A1 ⊢
  refine ok_bnd.2 (ok_append_room slt hb1 hf1 (arr_src Try.underlying22 A1 (wds_one l)) (by simp; omega) (by simp; omega) ?_)
  have hb2 := blk_setBlk w1 w.heap.size (splice c0 (0 + (0 : Int).toNat) (wds l)) c0 hb1 w.heap.size
  have hf2 := fre_setBlk w1 w.heap.size (splice c0 (0 + (0 : Int).toNat) (wds l)) c0 hb1 (splice_size _ _ _) w.heap.size
  rw [if_pos rfl] at hb2
  rw [hf1] at hf2
  have hB2 := below_setBlk hB1 (Nat.le_refl w.heap.size) (splice c0 (0 + (0 : Int).toNat) (wds l))
  have hz2 := size_setBlk w1 w.heap.size (splice c0 (0 + (0 : Int).toNat) (wds l))
  generalize World.setBlk w1 w.heap.size (splice c0 (0 + (0 : Int).toNat) (wds l)) = w2 at hb2 hf2 hB2 hz2 ⊢
  refine ok_bnd.2 (ok_build2 _ _ ?_)
  have A3 := arr_new w2 25 [Value.int .u32 8999229, Value.int .u32 8999228] 2 2 (by decide) (by decide) (by decide)
  have hb3 := blk_alloc w2 #[Value.int .u32 8999229, Value.int .u32 8999228] 25 w.heap.size
  have hf3 := fre_alloc w2 #[Value.int .u32 8999229, Value.int .u32 8999228] 25 w.heap.size
  rw [if_neg (by omega), hb2] at hb3
  rw [if_neg (by omega), hf2] at hf3
  have hB3 : Below w.heap.size w (w2.alloc (.cells #[Value.int .u32 8999229, Value.int .u32 8999228] 25)) := hB2.alloc (by omega) _
  refine ok_bnd.2 (ok_append_room slt hb3 hf3 (arr_src Try.underlying22 A3 (by simp [Value.oneCell'])) (by simp; omega) (by simp [splice_size]; omega) ?_)
  refine ok_bnd.2 (ok_slc (by simp) (by simp) (by simp; omega) (ok_ret.2 ⟨below_setBlk hB3 (Nat.le_refl _) _, ?_, ?_, ?_⟩))
  · simp only [cut, Option.getD_none, Option.getD_some]
    rw [if_neg (by simp; omega)]
    simp [Addr.add, es]
    omega
  · rw [blk_setBlk _ _ _ _ hb3, if_pos rfl]
    congr 1
    apply Array.ext_getElem?
    intro i
    rw [splice_get _ _ _ (by simp [splice_size]; omega), splice_get _ _ _ (by simp; omega)]
    simp only [List.getElem?_toArray, List.getElem?_append, List.length_map, List.length_cons, List.length_nil]
    by_cases h1 : i < l.length
    · rw [if_neg (by simp; omega), if_pos (by simp; omega), if_pos h1]; simp
    · rw [if_neg h1]
      by_cases h2 : i < l.length + 2
      · rw [if_pos (by simp; omega)]; simp [es]
      · rw [if_neg (by simp; omega), if_neg (by simp; omega), Array.getElem?_eq_none (by omega), List.getElem?_eq_none (by simp; omega)]
  · rw [fre_setBlk _ _ _ _ hb3 (splice_size _ _ _)]; exact hf3
end Go.Proofs.Ytpgalllceejpnaa
