/-
  The statement SchedBack of the given rows, for every input: the law's call returns true and each argument reads behind it as it read before. No further condition.
-/
import Derived.Test.YtkkdeljladihpaaUN
import Derived.Test.YtkkdeljladihpaaRows
import Derived.WalkKit
import Derived.ProofKit
import Derived.OpenShut
import Derived.SizedLaws
import Derived.KernelRfl
set_option linter.unusedVariables false
set_option linter.unusedSimpArgs false
namespace Go.Proofs.Ytkkdeljladihpaa.schedBack
open Go.ChangeShapes Go.WideShapes Go.ChangeAt Go.RowKit Go.Sh Go.Proofs.Ytkkdeljladihpaa
set_option linter.unusedVariables false
theorem own : ownKnob Try.prog.godebug = none := by kernel_rfl
theorem laid : laidOutB Try.prog = true := by kernel_rfl
set_option maxRecDepth 100000 in
theorem lifted (os : Os) (started : os.Started) (H : Type) (enc : TypeId × Value → H) :
    ReturnsInHanded {} Try.checked os 6 .any (Rows.schedBackSpec.pre6 enc Try.prog Try.f6 Rows.schedBackRow.domain false) (Rows.schedBackSpec.post enc Try.prog Try.f6 false true false false) := by
  refine returnsInHanded_of_change_sized (C := Try.checked) own started (by kernel_rfl) Try.func6
    (ChangeSpec.witness6 (enc := enc) (C := Try.checked) false ⟨#[], #[.slice none 0 0, .slice none 0 0], []⟩ 8 (by kernel_rfl) (by kernel_rfl) (by kernel_rfl) (by kernel_rfl)) ?_
  intro W base args ds gs before hval0 hW hcnd hwt _
  have hval : ∀ (j : Nat) t v, Try.f6.params[j]? = some t → args[j]? = some v → Value.okWide Try.prog W .any base t v := hval0
  have hW' := hW
  obtain ⟨p, q, hA0, hV, rfl, hfz, hnd⟩ := hW
  have hA : DataW.TrodAll enc Try.prog W 0 (fun _ => true) true Try.f6.params.toList args.toList ds p := hA0
  rw [Try.params6] at hA hval
  obtain ⟨v0, vs0, d0, ds0, p0, q0, hargs, rfl, rfl, h0, r0⟩ := trodAll_cons hA
  obtain ⟨v1, vs1, d1, ds1, p1, q1, rfl, rfl, rfl, h1, r1⟩ := trodAll_cons r0
  obtain ⟨rfl, rfl, rfl⟩ := trodAll_nil r1
  obtain rfl : args = #[v0, v1] := by cases args; simp_all
  obtain ⟨rfl, rfl⟩ := trodVars_none hV
  obtain ⟨x0, rfl, w0⟩ := open_arg (.sl shAct) (by kernel_rfl) (hval 0 22 v0 rfl rfl) h0
  obtain ⟨x1, rfl, w1⟩ := open_arg (.sl shAct) (by kernel_rfl) (hval 1 22 v1 rfl rfl) h1
  have hb0 : x0.len ≤ 1000000000000000000 := by
    rcases trod_room Try.underlying22 h0 with h | ⟨elems, spare, rfl, h⟩
    · omega
    · have hk : (elems.length + spare.length) * Try.prog.bytesOf 30 ≤ reachBytes := sized_slice hwt (j := 0) (t := 22) (e := 30) (elems := elems) (spare := spare) rfl rfl Try.underlying22
      have hby : Try.prog.bytesOf 30 = 24 := by kernel_rfl
      have hr := reachBytes_lt
      rw [hby] at hk
      rw [show (2 : Nat) ^ 47 = 140737488355328 by decide] at hr
      omega
  have hb1 : x1.len ≤ 1000000000000000000 := by
    rcases trod_room Try.underlying22 h1 with h | ⟨elems, spare, rfl, h⟩
    · omega
    · have hk : (elems.length + spare.length) * Try.prog.bytesOf 30 ≤ reachBytes := sized_slice hwt (j := 1) (t := 22) (e := 30) (elems := elems) (spare := spare) rfl rfl Try.underlying22
      have hby : Try.prog.bytesOf 30 = 24 := by kernel_rfl
      have hr := reachBytes_lt
      rw [hby] at hk
      rw [show (2 : Nat) ^ 47 = 140737488355328 by decide] at hr
      omega
  refine (calls_ok X.Sf6_palaverlaw26_SchedBack (x := (x0, x1)) (back_is w0 w1 hb0 hb1 W) rfl).mono fun e W' ⟨y, he, hy, hb⟩ => ?_
  subst hy; subst he
  exact ⟨_, rfl, law_post laid (by kernel_rfl) hW' rfl rfl Try.underlying4 rfl hb⟩
theorem over : Rows.schedBackRow.holds Try.pinned (OpenSpec.ofChange Rows.schedBackSpec) :=
  OpenClaim.holds_of_wide 6 Try.f6 rfl rfl rfl rfl rfl rfl rfl ⟨rfl, rfl, rfl, rfl, rfl⟩ rfl rfl rfl rfl rfl (by kernel_rfl) Try.func6 (by kernel_rfl)
    (of_decide_eq_true (by kernel_rfl)) (by unfold Func.isWrapper; first | (rw [if_pos (by decide +kernel)]; kernel_rfl) | (rw [if_neg (by decide +kernel)]; exact ⟨rfl, rfl⟩))
    (fun os started H enc _ => lifted os started H enc)
/-- The statement. -/
theorem proved : Rows.SchedBackSaid :=
  over
#print axioms proved
end Go.Proofs.Ytkkdeljladihpaa.schedBack
