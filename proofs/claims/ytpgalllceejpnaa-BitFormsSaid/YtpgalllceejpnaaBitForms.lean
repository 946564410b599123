/-
  The statement BitForms of the given rows, for every input: the law's call returns true and each argument reads behind it as it read before. No further condition.
-/
import Derived.Test.YtpgalllceejpnaaB31
import Derived.Test.YtpgalllceejpnaaShN
import Derived.Test.YtpgalllceejpnaaRows
import Derived.WalkKit
import Derived.ProofKit
import Derived.OpenShut
import Derived.KernelRfl
set_option linter.unusedSimpArgs false
set_option linter.unusedVariables false
namespace Go.Proofs.Ytpgalllceejpnaa.bitForms
open Go.ChangeShapes Go.WideShapes Go.ChangeAt Go.RowKit Go.Sh Go.Proofs.Ytpgalllceejpnaa
set_option linter.unusedVariables false
theorem own : ownKnob Try.prog.godebug = none := by kernel_rfl
theorem laid : laidOutB Try.prog = true := by kernel_rfl
set_option maxRecDepth 100000 in
theorem lifted (os : Os) (started : os.Started) (H : Type) (enc : TypeId × Value → H) :
    ReturnsInHanded {} Try.checked os 3 .any (Rows.bitFormsSpec.pre6 enc Try.prog Try.f3 Rows.bitFormsRow.domain false) (Rows.bitFormsSpec.post enc Try.prog Try.f3 false true false false) := by
  refine returnsInHanded_of_change (C := Try.checked) own started (by kernel_rfl) Try.func3
    (ChangeSpec.witness6 (enc := enc) (C := Try.checked) false ⟨#[], #[.agg #[.int .i64 0, .int .i64 0, .int .i64 0, .slice none 0 0], .int .i64 0, .int .i64 0, .int .u32 0, .int .i64 0, .int .u32 0, .int .u32 0], []⟩ 8 (by kernel_rfl) (by kernel_rfl) (by kernel_rfl) (by kernel_rfl)) ?_
  intro W base args ds gs before hval0 hW hcnd _
  have hval : ∀ (j : Nat) t v, Try.f3.params[j]? = some t → args[j]? = some v → Value.okWide Try.prog W .any base t v := hval0
  have hW' := hW
  obtain ⟨p, q, hA0, hV, rfl, hfz, hnd⟩ := hW
  have hA : DataW.TrodAll enc Try.prog W 0 (fun _ => true) true Try.f3.params.toList args.toList ds p := hA0
  rw [Try.params3] at hA hval
  obtain ⟨v0, vs0, d0, ds0, p0, q0, hargs, rfl, rfl, h0, r0⟩ := trodAll_cons hA
  obtain ⟨v1, vs1, d1, ds1, p1, q1, rfl, rfl, rfl, h1, r1⟩ := trodAll_cons r0
  obtain ⟨v2, vs2, d2, ds2, p2, q2, rfl, rfl, rfl, h2, r2⟩ := trodAll_cons r1
  obtain ⟨v3, vs3, d3, ds3, p3, q3, rfl, rfl, rfl, h3, r3⟩ := trodAll_cons r2
  obtain ⟨v4, vs4, d4, ds4, p4, q4, rfl, rfl, rfl, h4, r4⟩ := trodAll_cons r3
  obtain ⟨v5, vs5, d5, ds5, p5, q5, rfl, rfl, rfl, h5, r5⟩ := trodAll_cons r4
  obtain ⟨v6, vs6, d6, ds6, p6, q6, rfl, rfl, rfl, h6, r6⟩ := trodAll_cons r5
  obtain ⟨rfl, rfl, rfl⟩ := trodAll_nil r6
  obtain rfl : args = #[v0, v1, v2, v3, v4, v5, v6] := by cases args; simp_all
  obtain ⟨rfl, rfl⟩ := trodVars_none hV
  obtain ⟨x0, rfl, w0⟩ := open_arg shF (by kernel_rfl) (hval 0 24 v0 rfl rfl) h0
  obtain ⟨x1, rfl, w1⟩ := open_arg (.int .i64) (by kernel_rfl) (hval 1 3 v1 rfl rfl) h1
  obtain ⟨x2, rfl, w2⟩ := open_arg (.int .i64) (by kernel_rfl) (hval 2 3 v2 rfl rfl) h2
  obtain ⟨x3, rfl, w3⟩ := open_arg (.int .u32) (by kernel_rfl) (hval 3 25 v3 rfl rfl) h3
  obtain ⟨x4, rfl, w4⟩ := open_arg (.int .i64) (by kernel_rfl) (hval 4 3 v4 rfl rfl) h4
  obtain ⟨x5, rfl, w5⟩ := open_arg (.int .u32) (by kernel_rfl) (hval 5 25 v5 rfl rfl) h5
  obtain ⟨x6, rfl, w6⟩ := open_arg (.int .u32) (by kernel_rfl) (hval 6 25 v6 rfl rfl) h6
  refine (calls_ok Sf3_palaverlaw11_BitForms (x := (x0, (x1, (x2, (x3, (x4, (x5, x6))))))) (forms_law x0 x1 x2 x3 x4 x5 x6 W w0 w1 w2 w3 w5 w6) rfl).mono fun e W' ⟨y, he, hy, hb⟩ => ?_
  subst hy; subst he
  exact ⟨_, rfl, law_post laid (by kernel_rfl) hW' rfl rfl Try.underlying4 rfl hb⟩
theorem over : Rows.bitFormsRow.holds Try.pinned (OpenSpec.ofChange Rows.bitFormsSpec) :=
  OpenClaim.holds_of_wide 3 Try.f3 rfl rfl rfl rfl rfl rfl rfl ⟨rfl, rfl, rfl, rfl, rfl⟩ rfl rfl rfl rfl rfl (by kernel_rfl) Try.func3 (by kernel_rfl)
    (of_decide_eq_true (by kernel_rfl)) (by unfold Func.isWrapper; first | (rw [if_pos (by decide +kernel)]; kernel_rfl) | (rw [if_neg (by decide +kernel)]; exact ⟨rfl, rfl⟩))
    (fun os started H enc _ => lifted os started H enc)
/-- The statement. -/
theorem proved : Rows.BitFormsSaid :=
  over
#print axioms proved
end Go.Proofs.Ytpgalllceejpnaa.bitForms
