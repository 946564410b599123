/-
  One slice of numbers copied into another one, which the call holds. No program in sight.
-/
import Derived.Test.YtckfidopkajpaaaShQ
import Derived.Laws.IdiomCopy
set_option linter.unusedVariables false
set_option linter.unusedSimpArgs false
namespace Go.Sh
set_option linter.unusedVariables false
open Go.RowKit
variable {S : Nat → Prop} {w0 w : World} {L : List It} {α : Type} {Q : α → World → Prop} {k : IntKind}
theorem ok_copyO {P : Program} {T U e : TypeId} {z : Value} {by_ : Nat} (SL : SlT P T e z by_) (C : Cx S w0 w L) {i : Nat} {d : Sl} {l : List Int} (hi : L[i]? = some (.own d (nums k l))) {B : Nat} {s : Sl} {m : List Int} (H : Arr B w s (nums k m)) (hm : m.length ≤ l.length) {f : Int → M α}
    (hq : ∀ w', Cx S w0 w' (L.set i (.own d (nums k (m ++ l.drop m.length)))) → Ok (f (m.length : Int)) w' Q) :
    Ok (bnd (runV P (.int .i64) (Builtin.copy_ #[T, T] U #[.slice d.a d.len d.cap, .slice s.a s.len s.cap])) f) w Q := by
  obtain ⟨inf, hinf, hs, hz, hb⟩ := SL.info
  have O := C.get hi
  have e1 : d.len = l.length := by have := O.1; simpa using this
  have e2 : s.len = m.length := by have := H.1; simpa using this
  by_cases h0 : m = []
  · subst h0
    have e3 : s.len = 0 := e2
    refine ok_bnd.2 (ok_runV (run_copy_none w T T U e d.a s.a d.len d.cap s.len s.cap SL.under (by rw [hinf]; simp [hs]) (by rw [e3]; exact Nat.zero_min _)) (x := 0) rfl (hq w ?_))
    have := C.turn (new := .own d (nums k ([] ++ l.drop 0))) hi (Keep.refl No w) (fun _ h => h.elim) O rfl
    simpa using this
  · have hpos : 0 < m.length := List.length_pos_iff.2 h0
    rcases O.2.2.2 with ⟨h5, h6⟩ | ⟨b, c, h5, h6, h7, h8, h9, h10⟩
    · have := O.2.1; omega
    rcases H.2.2.2 with h | ⟨b', o', c', g5, g6, g7, g8⟩
    · simp at h; exact absurd h h0
    have hsz : m.length ≤ c.size := by have := O.2.1; omega
    have hr := run_copy_cells (P := P) w T T U e b 0 d.len d.cap ⟨b', o', none⟩ s.len s.cap (nums k m) SL.under (by rw [hinf]; simp [hs]) (by simp only [List.length_map]; rw [e1, e2]; exact (Nat.min_eq_left hm).symm)
      (fun j v hj => by
        have hjl : j < (nums k m).length := by
          rcases Nat.lt_or_ge j (nums k m).length with h | h
          · exact h
          · rw [List.getElem?_eq_none h] at hj; cases hj
        rw [addr_add, cell_blk g7, g8 j hjl, hj])
      (fun j hj => by
        simp only [List.length_map] at hj
        rw [cell_blk h7, Nat.zero_add, Array.getElem?_eq_getElem (show j < c.size by omega)]; rfl)
      (fun j hj => by
        simp only [List.length_map] at hj
        exact frozen_blk h7 h8 (by omega))
      (nums_one m)
    rw [setCells_setBlk _ _ _ _ h7] at hr
    rw [h5, g5]
    refine ok_bnd.2 (ok_runV hr (x := (m.length : Int)) (by simp [goInt, dec1, dec, dInt, Value.cells]) (hq _ (C.turn hi (keep_setBlk w b _) (fun y hy => by rw [hy]; simp [It.at_, h5]) ?_ rfl)))
    have hss : (splice c 0 (nums k m)).size = c.size := splice_size _ _ _
    refine ⟨by simp; omega, O.2.1, O.2.2.1, .inr ⟨b, _, h5, Nat.zero_le _, by rw [blk_setBlk _ _ _ _ h7, if_pos rfl], by rw [fre_setBlk _ _ _ _ h7 hss]; exact h8, by rw [hss]; exact h9, fun j hj => ?_⟩⟩
    rw [splice_get _ _ _ (by simp; omega)]
    simp only [nums, List.length_map, List.length_append, List.length_drop] at hj
    simp only [nums, List.length_map, Nat.zero_le, true_and, Nat.zero_add, Nat.sub_zero, List.map_append]
    by_cases hjm : j < m.length
    · rw [if_pos hjm, List.getElem?_append_left (by simpa using hjm)]
    · rw [if_neg hjm, List.getElem?_append_right (by simp; omega), h10 j (by simp; omega)]
      simp only [nums, List.getElem?_map, List.length_map, List.getElem?_drop]
      rw [show m.length + (j - m.length) = j by omega]
end Go.Sh
