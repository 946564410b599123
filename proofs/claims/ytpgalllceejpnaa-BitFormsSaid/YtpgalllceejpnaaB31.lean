/-
  Part of the proof: B31
-/
import Derived.Test.YtpgalllceejpnaaB30
set_option linter.unusedSimpArgs false
set_option linter.unusedVariables false
namespace Go.Proofs.Ytpgalllceejpnaa
set_option linter.unusedVariables false
open Go.Sh Go.RowKit
theorem forms_law (f : Form) (x y p rule s d : Int) (w : World) (hf : Held w shF f) (hx : Held w (.int .i64) x) (hy : Held w (.int .i64) y) (hp : Held w (.int .u32) p) (hs : Held w (.int .u32) s) (hd : Held w (.int .u32) d) :
    Ok (f3_palaverlaw11_BitForms f x y p rule s d) w fun r w' => r = true ∧ Below w.heap.size w w' := by
  obtain ⟨l, H, hl⟩ := held_words hf
  exact forms_spec f x y p rule s d l w H hl (wf_i64 hx) (wf_i64 hy) (wf_u32 hp) (wf_u32 hs) (wf_u32 hd)
end Go.Proofs.Ytpgalllceejpnaa
