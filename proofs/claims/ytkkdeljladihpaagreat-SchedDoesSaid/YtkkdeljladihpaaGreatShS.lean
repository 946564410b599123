/-
  Parts of the proof: ShS, ShT. It states what the functions do; no further condition.
-/
import Derived.Test.YtkkdeljladihpaaGreatL05
import Derived.Test.YtkkdeljladihpaaGreatShR
import Derived.Laws.IdiomStrings
set_option linter.unusedVariables false
set_option linter.unusedSimpArgs false
/-
  Texts and bytes: a text's bytes as numbers; texts out of slices and slices out of texts; a few elements at once. No program in sight.
-/
namespace Go.Sh
open Go.RowKit
variable {S : Nat → Prop} {w0 w : World} {L : List It} {α : Type} {Q : α → World → Prop} {k : IntKind}
/-- A text's bytes. -/
def bl (d : ByteArray) : List Int := d.data.toList.map fun u => (u.toNat : Int)
/-- Some elements at once. -/
theorem ok_buildL2 {P : Program} {T e : TypeId} {z : Value} {by_ : Nat} (SL : SlT P T e z by_) (v0 v1 : Value) (h0 : v0.cells = #[v0]) (h1 : v1.cells = #[v1]) {Q : Sl → World → Prop} (hq : Q ⟨some ⟨w.heap.size, 0, none⟩, 2, 2⟩ (w.alloc (.cells [v0, v1].toArray e))) : Ok (runV P .sl (Instr.buildSlice T 2 #[(0, v0), (1, v1)])) w Q := by
  obtain ⟨i, hi, hs, hz, hb⟩ := SL.info
  refine ok_runV (v := .slice (some ⟨w.heap.size, 0, none⟩) 2 2) (w' := w.alloc (.cells [v0, v1].toArray e)) ?_ rfl hq
  simp [Instr.buildSlice, run_underlying SL.under, sizeOf, typeInfo, zeroValue, hi, hz, hs, Instr.fill, newRow, SL.cells]
  rw [show (Array.range 2) = #[0, 1] from by decide]
  simp [h0, h1]
/-- What a computation answers, whatever the world; it leaves all as it was. -/
def Is (m : M α) (r : α) : Prop := ∀ w, Ok m w fun x w' => Below w.heap.size w w' ∧ x = r
end Go.Sh

/-
  Records of a truth and a text, of a slice and a truth: made, read, written; results that a call owns, joined to what is held. No program in sight.
-/
namespace Go.Sh
open Go.RowKit
variable {S : Nat → Prop} {w0 w w' : World} {L : List It} {α : Type} {Q : α → World → Prop} {k : IntKind}
/-- What a call owns behind it, joined to what was held. -/
theorem Cx.join {M : List It} (C : Cx S w0 w L) (D : Cx No w w' M) : Cx S w0 w' (M ++ L) := by
  have C' := C.call D.below
  refine ⟨C'.keep, ?_, ?_, ?_⟩
  · intro it hi
    rcases List.mem_append.1 hi with h | h
    · exact D.held it h
    · exact C'.held it h
  · intro it hi b hb
    rcases List.mem_append.1 hi with h | h
    · have := (D.mine it h b hb).resolve_left id
      have := C.size
      right; omega
    · exact C'.mine it h b hb
  · refine List.pairwise_append.2 ⟨D.apart, C'.apart, ?_⟩
    intro x hx y hy b h1 h2
    have := (D.mine x hx b h1).resolve_left id
    have := (C.held y hy).lt h2
    omega
/-! A truth and a text -/
/-! A slice and a truth -/
end Go.Sh
namespace Go.Sh
variable {w : World} {α β γ : Type} {Q : γ → World → Prop}
theorem ok_retB {x : α} {f : α → M γ} (h : Ok (f x) w Q) : Ok (bnd (ret x) f) w Q := ok_bnd.2 (ok_ret.2 h)
theorem ok_tB {b : Bool} {m n : M α} {f : α → M γ} (hb : b = true) (h : Ok (bnd m f) w Q) : Ok (bnd (cnd b m n) f) w Q := by subst hb; exact h
theorem ok_fB {b : Bool} {m n : M α} {f : α → M γ} (hb : b = false) (h : Ok (bnd n f) w Q) : Ok (bnd (cnd b m n) f) w Q := by subst hb; exact h
end Go.Sh
/-! To ask what stands ahead (with little unfolding), so that no other lemma is tried at length. -/
namespace Go.Sh
variable {w : World} {α β γ : Type} {Q : γ → World → Prop}
end Go.Sh
namespace Go.Sh
/-- A loop, by what holds ahead of each round and a number that falls. -/
theorem ok_loopN {σ ρ : Type} {body : σ → M (σ ⊕ ρ)} {Q : ρ → World → Prop} (I : Nat → σ → World → Prop)
    (step : ∀ n s w, I n s w → Ok (body s) w fun r w' => match r with | .inl s' => ∃ n', n' < n ∧ I n' s' w' | .inr x => Q x w') : ∀ (n : Nat) (s : σ) (w : World), I n s w → Ok (loopM body s) w Q := by
  intro n
  induction n using Nat.strongRecOn with
  | _ n ih =>
    intro s w hI
    rw [loopM_eq, ok_bnd]
    refine ok_mono (step n s w hI) fun r w' h => ?_
    cases r with
    | inl s' => obtain ⟨n', h1, h2⟩ := h; exact ih n' h1 s' w' h2
    | inr x => rw [ok_ret]; exact h
end Go.Sh
namespace Go.Sh
theorem bnd_as {α β γ : Type} (m : M α) (f : α → M β) (g : β → M γ) : bnd (bnd m f) g = bnd m fun x => bnd (f x) g := by
  funext w
  unfold bnd
  cases m w with
  | none => rfl
  | some p => rfl
end Go.Sh
/-! The same, the place found among what is held. -/
namespace Go.Sh
open Go.RowKit
variable {S : Nat → Prop} {w0 w : World} {L : List It} {α : Type} {Q : α → World → Prop}
end Go.Sh
