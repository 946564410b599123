/-
  An argument that is a slice of numbers, as such.
-/
import Derived.Test.YtckfidopkajpaaaShM
set_option linter.unusedVariables false
set_option linter.unusedSimpArgs false
namespace Go.Sh
set_option linter.unusedVariables false
open Go.RowKit
theorem cells_one {w : World} {a : Addr} {v : Value} (h : w.cells? 0 a 1 = some [v]) : w.cell? a = some v := by
  unfold World.cells? at h
  rw [if_pos (Nat.zero_le _)] at h
  simp only [List.range_one, List.mapM_cons, List.mapM_nil, Option.pure_def, Option.bind_eq_bind, Option.bind_eq_some_iff] at h
  obtain ⟨x, h1, y, h2, h3⟩ := h
  simp only [Option.some.injEq, List.cons.injEq] at h2 h3
  subst h2
  simp at h3
  subst h3
  have : a.add 0 = a := by unfold Addr.add; rw [if_pos rfl]
  rw [this] at h1
  exact h1
theorem held_arr {w : World} {k : IntKind} {s : Sl} (h : Held w (.sl (.int k)) s) : ∃ l : List Int, Arr w.heap.size w s (l.map (.int k)) ∧ ∀ n ∈ l, (Lit.int k n).wf = true := by
  rcases h with ⟨h1, h2, h3⟩ | ⟨a, ha, hlc, hcm, hel⟩
  · exact ⟨[], ⟨by simp [h2], by omega, by omega, .inl rfl⟩, by simp⟩
  · have hcell : ∀ i, i < s.cap → ∃ y : Int, w.cell? (a.add i) = some (.int k y) ∧ (Lit.int k y).wf = true := by
      intro i hi
      obtain ⟨y, h1, h2⟩ := hel i hi
      have h1 : w.cells? 0 (a.add (i * 1)) 1 = some [.int k y] := h1
      rw [Nat.mul_one] at h1
      exact ⟨y, cells_one h1, h2⟩
    classical
    let f : Nat → Int := fun i => if hi : i < s.cap then (hcell i hi).choose else 0
    have hf : ∀ i, i < s.cap → w.cell? (a.add i) = some (.int k (f i)) ∧ (Lit.int k (f i)).wf = true := by
      intro i hi
      simp only [f, dif_pos hi]
      exact (hcell i hi).choose_spec
    refine ⟨(List.range s.len).map f, ⟨by simp, hlc, hcm, ?_⟩, ?_⟩
    · by_cases hz : s.len = 0
      · left; simp [hz]
      · right
        obtain ⟨b, o, sp⟩ := a
        have h0 := (hf 0 (by omega)).1
        have e0 : (Addr.add ⟨b, o, sp⟩ 0) = ⟨b, o, sp⟩ := by unfold Addr.add; rw [if_pos rfl]
        rw [e0] at h0
        have hsp : sp = none := by
          unfold World.cell? at h0
          simp only at h0
          split at h0
          · cases sp with
            | none => rfl
            | some x => simp at h0
          · cases h0
        subst hsp
        have hb : ∃ c, blk w b = some c := by
          unfold World.cell? at h0
          simp only at h0
          unfold blk
          split at h0
          · rename_i c e fz hb; exact ⟨c, by rw [hb]⟩
          · cases h0
        obtain ⟨c, hc⟩ := hb
        refine ⟨b, o, c, ha, blk_lt hc, hc, fun i hi => ?_⟩
        simp only [List.length_map, List.length_range] at hi
        have h1 := (hf i (by omega)).1
        rw [addr_add, cell_blk hc] at h1
        rw [h1]
        simp [hi]
    · intro n hn
      simp only [List.mem_map, List.mem_range] at hn
      obtain ⟨i, hi, rfl⟩ := hn
      exact (hf i (by omega)).2
end Go.Sh
