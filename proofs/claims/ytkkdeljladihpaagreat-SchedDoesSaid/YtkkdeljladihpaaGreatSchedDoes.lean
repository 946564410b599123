/-
  The statement SchedDoes of the given rows, for every input: the law's call returns true and each argument reads behind it as it read before. No further condition.
-/
import Derived.Test.YtkkdeljladihpaaGreatZVO
import Derived.Test.YtkkdeljladihpaaGreatRows
import Derived.WalkKit
import Derived.ProofKit
import Derived.OpenShut
import Derived.SizedLaws
import Derived.KernelRfl
set_option linter.unusedVariables false
set_option linter.unusedSimpArgs false
namespace Go.Proofs.YtkkdeljladihpaaGreat.schedDoes
open Go.ChangeShapes Go.WideShapes Go.ChangeAt Go.RowKit Go.Sh Go.Proofs.YtkkdeljladihpaaGreat
theorem own : ownKnob Tryz.prog.godebug = none := by kernel_rfl
theorem laid : laidOutB Tryz.prog = true := by kernel_rfl
set_option maxRecDepth 100000 in
theorem lifted (os : Os) (started : os.Started) (H : Type) (enc : TypeId × Value → H) :
    ReturnsInHanded {} Tryz.checked os 3 .any (Rows.schedDoesSpec.pre6 enc Tryz.prog Tryz.f3 Rows.schedDoesRow.domain false) (Rows.schedDoesSpec.post enc Tryz.prog Tryz.f3 false true false false) := by
  refine returnsInHanded_of_change_sized (C := Tryz.checked) own started (by kernel_rfl) Tryz.func3
    (ChangeSpec.witness6 (enc := enc) (C := Tryz.checked) false ⟨#[], #[.slice none 0 0], []⟩ 8 (by kernel_rfl) (by kernel_rfl) (by kernel_rfl) (by kernel_rfl)) ?_
  intro W base args ds gs before hval0 hW hcnd hwt _
  have hval : ∀ (j : Nat) t v, Tryz.f3.params[j]? = some t → args[j]? = some v → Value.okWide Tryz.prog W .any base t v := hval0
  have hW' := hW
  obtain ⟨p, q, hA0, hV, rfl, hfz, hnd⟩ := hW
  have hA : DataW.TrodAll enc Tryz.prog W 0 (fun _ => true) true Tryz.f3.params.toList args.toList ds p := hA0
  rw [Tryz.params3] at hA hval
  obtain ⟨v0, vs0, d0, ds0, p0, q0, hargs, rfl, rfl, h0, r0⟩ := trodAll_cons hA
  obtain ⟨rfl, rfl, rfl⟩ := trodAll_nil r0
  obtain rfl : args = #[v0] := by cases args; simp_all
  obtain ⟨rfl, rfl⟩ := trodVars_none hV
  obtain ⟨x0, rfl, w0⟩ := open_arg (.sl shAct) (by kernel_rfl) (hval 0 22 v0 rfl rfl) h0
  have hb0 : x0.len ≤ 6000000000000 := by
    rcases trod_room Tryz.underlying22 h0 with h | ⟨elems, spare, rfl, h⟩
    · omega
    · have hk : (elems.length + spare.length) * Tryz.prog.bytesOf 35 ≤ reachBytes := sized_slice hwt (j := 0) (t := 22) (e := 35) (elems := elems) (spare := spare) rfl rfl Tryz.underlying22
      have hby : Tryz.prog.bytesOf 35 = 24 := by kernel_rfl
      have hr := reachBytes_lt
      rw [hby] at hk
      rw [show (2 : Nat) ^ 47 = 140737488355328 by decide] at hr
      omega
  refine (calls_ok Y.Sf3_SchedDoes (x := x0) (does_is w0 hb0 W) rfl).mono fun e W' ⟨y, he, hy, hb⟩ => ?_
  subst hy; subst he
  exact ⟨_, rfl, law_post laid (by kernel_rfl) hW' rfl rfl Tryz.underlying4 rfl hb⟩
theorem over : Rows.schedDoesRow.holds Tryz.pinned (OpenSpec.ofChange Rows.schedDoesSpec) :=
  OpenClaim.holds_of_wide 3 Tryz.f3 rfl rfl rfl rfl rfl rfl rfl ⟨rfl, rfl, rfl, rfl, rfl⟩ rfl rfl rfl rfl rfl (by kernel_rfl) Tryz.func3 (by kernel_rfl)
    (of_decide_eq_true (by kernel_rfl)) (by unfold Func.isWrapper; first | (rw [if_pos (by decide +kernel)]; kernel_rfl) | (rw [if_neg (by decide +kernel)]; exact ⟨rfl, rfl⟩))
    (fun os started H enc _ => lifted os started H enc)
/-- The statement. -/
theorem proved : Rows.SchedDoesSaid :=
  over
#print axioms proved
end Go.Proofs.YtkkdeljladihpaaGreat.schedDoes
