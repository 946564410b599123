/-
  Some of what a call holds. No program in sight.
-/
import Derived.Test.YtpgalllceejpnaaShQ
set_option linter.unusedSimpArgs false
set_option linter.unusedVariables false
namespace Go.Sh
set_option linter.unusedVariables false
open Go.RowKit
variable {S : Nat → Prop} {w0 w : World} {L R : List It}
theorem Cx.apartAt (C : Cx S w0 w L) {i j : Nat} {x y : It} (hi : L[i]? = some x) (hj : L[j]? = some y) (hne : i ≠ j) (b : Nat) (h1 : x.at_ = some b) : y.at_ ≠ some b := by
  intro h2
  have li : i < L.length := by
    rcases Nat.lt_or_ge i L.length with h | h
    · exact h
    · rw [List.getElem?_eq_none h] at hi; cases hi
  have lj : j < L.length := by
    rcases Nat.lt_or_ge j L.length with h | h
    · exact h
    · rw [List.getElem?_eq_none h] at hj; cases hj
  rw [List.getElem?_eq_getElem li] at hi
  rw [List.getElem?_eq_getElem lj] at hj
  cases hi; cases hj
  have hap := List.pairwise_iff_getElem.1 C.apart
  rcases Nat.lt_or_ge i j with h | h
  · exact hap i j li lj h b h1 h2
  · exact hap j i lj li (by omega) b h2 h1
/-- The items at those places. -/
def picks (L : List It) : List Nat → List It
  | [] => []
  | i :: is => match L[i]? with
    | some x => x :: picks L is
    | none => picks L is
theorem picks_mem {x : It} : ∀ {is : List Nat}, x ∈ picks L is → ∃ i ∈ is, L[i]? = some x
  | [], h => by cases h
  | i :: is, h => by
    unfold picks at h
    split at h
    · rename_i y hy
      rcases List.mem_cons.1 h with rfl | h
      · exact ⟨i, by simp, hy⟩
      · obtain ⟨j, hj, hx⟩ := picks_mem h; exact ⟨j, .tail _ hj, hx⟩
    · obtain ⟨j, hj, hx⟩ := picks_mem h; exact ⟨j, .tail _ hj, hx⟩
theorem Cx.pick (C : Cx S w0 w L) (is : List Nat) (hn : is.Nodup) : Cx S w0 w (picks L is) := by
  refine ⟨C.keep, fun x hx => ?_, fun x hx => ?_, ?_⟩
  · obtain ⟨i, _, h⟩ := picks_mem hx; exact C.get h
  · obtain ⟨i, _, h⟩ := picks_mem hx; exact C.mine x (List.mem_of_getElem? h)
  · induction is with
    | nil => exact .nil
    | cons i is ih =>
      have hn' := List.nodup_cons.1 hn
      unfold picks
      split
      · rename_i y hy
        refine List.pairwise_cons.2 ⟨fun z hz b h1 => ?_, ih hn'.2⟩
        obtain ⟨j, hj, h⟩ := picks_mem hz
        exact C.apartAt hy h (fun e => hn'.1 (e ▸ hj)) b h1
      · exact ih hn'.2
/-- One of them, looked at otherwise. -/
theorem Cx.recast (C : Cx S w0 w L) {i : Nat} {old new : It} (hi : L[i]? = some old) (hn : new.In w) (ha : new.at_ = old.at_) : Cx S w0 w (L.set i new) :=
  C.turn hi (Keep.refl No w) (fun _ h => h.elim) hn ha
end Go.Sh
