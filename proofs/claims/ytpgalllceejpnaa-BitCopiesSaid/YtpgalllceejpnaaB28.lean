/-
  Part of the proof: B28
-/
import Derived.Test.YtpgalllceejpnaaB27
import Derived.Test.YtpgalllceejpnaaShQ
set_option linter.unusedSimpArgs false
set_option linter.unusedVariables false
namespace Go.Proofs.Ytpgalllceejpnaa
set_option linter.unusedVariables false
open Go.Sh Go.RowKit
set_option maxRecDepth 100000
/-! ### The book: whose is what -/
theorem slt46 : SlT Try.prog 46 22 (.slice none 0 0) 24 := ⟨Try.underlying46, ⟨_, (by kernel_rfl : Try.prog.info? 22 = some Try.t22), rfl, rfl, rfl⟩, rfl⟩
theorem own_none {M : Type} : True := trivial
theorem loop_none {ρ : Type} {w : World} {Q : ρ → World → Prop} {body : Int → M (Int ⊕ ρ)} (r : ρ) (h : body 0 w = some (.inr r, w)) (hq : Q r w) : Ok (loopM body 0) w Q := by
  rw [loopM_eq]
  exact ok_bnd.2 (ok_of h (ok_ret.2 hq))
theorem loop_none2 {σ ρ : Type} {s : σ} {w : World} {Q : ρ → World → Prop} {body : σ → M (σ ⊕ ρ)} (h : Ok (body s) w fun r w' => ∃ x, r = .inr x ∧ Q x w') : Ok (loopM body s) w Q := by
  rw [loopM_eq]
  refine ok_bnd.2 (ok_mono h ?_)
  rintro _ w' ⟨x, rfl, hq⟩
  exact ok_ret.2 hq
abbrev nilS : Sl := ⟨none, 0, 0⟩
theorem ownInts0 (w : World) : Ok (f45_palaverref00_ownInts nilS) w fun r w' => r = true ∧ w = w' := by
  unfold f45_palaverref00_ownInts
  refine loop_none2 (ok_false rfl (ok_bnd.2 (loop_none2 (ok_false rfl (ok_bnd.2 (loop_none2 (ok_false rfl (ok_ret.2 ⟨true, rfl, ok_ret.2 ⟨_, rfl, ok_ret.2 ⟨_, rfl, rfl, rfl⟩⟩⟩)))))))) 
theorem ownNumbers0 (w : World) : Ok (f46_palaverref00_ownNumbers nilS) w fun r w' => r = true ∧ w = w' := by
  unfold f46_palaverref00_ownNumbers
  refine loop_none2 (ok_false rfl (ok_bnd.2 (loop_none2 (ok_false rfl (ok_bnd.2 (loop_none2 (ok_false rfl (ok_ret.2 ⟨true, rfl, ok_ret.2 ⟨_, rfl, ok_ret.2 ⟨_, rfl, rfl, rfl⟩⟩⟩))))))))
theorem ownOops0 (w : World) : Ok (f47_palaverref00_ownOops nilS) w fun r w' => r = true ∧ w = w' := by
  unfold f47_palaverref00_ownOops
  refine loop_none2 (ok_false rfl (ok_bnd.2 (loop_none2 (ok_false rfl (ok_bnd.2 (loop_none2 (ok_false rfl (ok_ret.2 ⟨true, rfl, ok_ret.2 ⟨_, rfl, ok_ret.2 ⟨_, rfl, rfl, rfl⟩⟩⟩))))))))
theorem ownDeeds0 (w : World) : Ok (f48_palaverref00_ownDeeds nilS) w fun r w' => r = true ∧ w = w' := by
  unfold f48_palaverref00_ownDeeds
  refine loop_none2 (ok_false rfl (ok_bnd.2 (loop_none2 (ok_false rfl (ok_bnd.2 (loop_none2 (ok_false rfl (ok_ret.2 ⟨true, rfl, ok_ret.2 ⟨_, rfl, ok_ret.2 ⟨_, rfl, rfl, rfl⟩⟩⟩))))))))
theorem ownFiles0 (w : World) : Ok (f49_palaverref00_ownFiles nilS) w fun r w' => r = true ∧ w = w' := by
  unfold f49_palaverref00_ownFiles
  refine loop_none2 (ok_false rfl (ok_bnd.2 (loop_none2 (ok_false rfl (ok_bnd.2 (loop_none2 (ok_false rfl (ok_ret.2 ⟨true, rfl, ok_ret.2 ⟨_, rfl, ok_ret.2 ⟨_, rfl, rfl, rfl⟩⟩⟩))))))))
theorem ownChoices0 (w : World) : Ok (f50_palaverref00_ownChoices nilS) w fun r w' => r = true ∧ w = w' := by
  unfold f50_palaverref00_ownChoices
  refine loop_none2 (ok_false rfl (ok_bnd.2 (loop_none2 (ok_false rfl (ok_bnd.2 (loop_none2 (ok_false rfl (ok_ret.2 ⟨true, rfl, ok_ret.2 ⟨_, rfl, ok_ret.2 ⟨_, rfl, rfl, rfl⟩⟩⟩))))))))
theorem ownTexts0 (w : World) : Ok (f51_palaverref00_ownTexts nilS) w fun r w' => r = true ∧ w = w' := by
  unfold f51_palaverref00_ownTexts
  refine loop_none2 (ok_false rfl (ok_bnd.2 (loop_none2 (ok_false rfl (ok_bnd.2 (loop_none2 (ok_false rfl (ok_ret.2 ⟨true, rfl, ok_ret.2 ⟨_, rfl, ok_ret.2 ⟨_, rfl, rfl, rfl⟩⟩⟩))))))))
end Go.Proofs.Ytpgalllceejpnaa
