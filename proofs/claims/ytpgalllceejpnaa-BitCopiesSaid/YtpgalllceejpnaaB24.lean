/-
  Part of the proof: B24
-/
import Derived.Test.YtpgalllceejpnaaB16
import Derived.Test.YtpgalllceejpnaaB23
import Derived.Test.YtpgalllceejpnaaShN
set_option linter.unusedSimpArgs false
set_option linter.unusedVariables false
namespace Go.Proofs.Ytpgalllceejpnaa
set_option linter.unusedVariables false
open Go.Sh Go.RowKit
abbrev shF : Shp := .agg (.pair (.int .i64) (.pair (.int .i64) (.pair (.int .i64) (.sl (.int .u32)))))
abbrev shB : Shp := .agg (.pair (.int .i64) (.pair (.int .i64) (.pair (.int .i64) (.pair (.int .i64) (.pair (.int .i64) (.pair (.int .i64) (.pair (.int .i64) (.pair (.int .i64) (.pair (.int .i64) (.pair (.int .i64) (.pair (.int .i64) (.sl (.int .u32)))))))))))))
theorem held_form {w : World} {f : Form} (h : Held w shF f) : ∃ l, Arr w.heap.size w f.2.2.2 (wds l) := by
  obtain ⟨l, H, _⟩ := held_arr (k := .u32) (s := f.2.2.2) h.2.2.2
  exact ⟨l, H⟩
theorem held_blit {w : World} {b : Blit} (h : Held w shB b) : ∃ l, Arr w.heap.size w (tone b) (wds l) := by
  obtain ⟨l, H, _⟩ := held_arr (k := .u32) (s := tone b) h.2.2.2.2.2.2.2.2.2.2.2
  exact ⟨l, H⟩
theorem moves_law (f : Form) (b : Blit) (w : World) (hf : Held w shF f) (hb : Held w shB b) : Ok (f7_palaverlaw11_BitMoves f b) w fun r w' => r = true ∧ Below w.heap.size w w' := by
  obtain ⟨l, H⟩ := held_form hf
  obtain ⟨tl, T⟩ := held_blit hb
  exact moves_spec f b l tl w H T
end Go.Proofs.Ytpgalllceejpnaa

namespace Go.Proofs.Ytpgalllceejpnaa
set_option linter.unusedVariables false
open Go.Sh Go.RowKit
theorem held_words {w : World} {f : Form} (h : Held w shF f) : ∃ l, Arr w.heap.size w f.2.2.2 (wds l) ∧ Wds l := by
  obtain ⟨l, H, hw⟩ := held_arr (k := .u32) (s := f.2.2.2) h.2.2.2
  exact ⟨l, H, fun n hn => wf_u32 (hw n hn)⟩
theorem rules_law (f g : Form) (b : Blit) (w : World) (hf : Held w shF f) (hg : Held w shF g) (hb : Held w shB b) : Ok (f6_palaverlaw11_BitRules f g b) w fun r w' => r = true ∧ Below w.heap.size w w' := by
  obtain ⟨l, H, hl⟩ := held_words hf
  obtain ⟨gl, G, _⟩ := held_words hg
  exact rules_spec f g b l gl w H G hl
theorem outside_law (f g : Form) (b : Blit) (w : World) (hf : Held w shF f) (hg : Held w shF g) (hb : Held w shB b) : Ok (f5_palaverlaw11_BitOutside f g b) w fun r w' => r = true ∧ Below w.heap.size w w' := by
  obtain ⟨l, H, hl⟩ := held_words hf
  obtain ⟨gl, G, hgl⟩ := held_words hg
  obtain ⟨tl, T⟩ := held_blit hb
  exact outside_spec f g b l gl tl w H G T hl hgl
end Go.Proofs.Ytpgalllceejpnaa
