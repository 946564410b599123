/-
  Part of the proof: S02. It states what the functions do; no further condition.
-/
import Derived.Test.YtkkdeljladihpaaS01
set_option linter.unusedVariables false
set_option linter.unusedSimpArgs false
namespace Go.Proofs.Ytkkdeljladihpaa
namespace X
set_option linter.unusedVariables false
open Go.Sh
set_option maxRecDepth 100000
noncomputable def tys : List (Nat × Ty) := [(3, (.int .i64)),
  (4, .bool),
  (22, .sl),
  (24, .ptr),
  (27, (.int .i64)),
  (30, (.agg (.pair (.int .i64) (.pair (.int .i64) (.int .i64))))),
  (31, .sl),
  (32, (.clo 55 (.pair .adr .adr))),
  (33, (.int .u8)),
  (49, .sl),
  (50, .sl),
  (51, (.agg (.pair .sl (.pair .sl (.pair .sl (.pair .sl (.pair .sl (.pair .sl (.pair .sl (.pair .sl (.pair .sl (.pair .sl (.pair .sl (.pair .sl (.pair .sl (.pair .sl (.pair .sl (.pair .sl .sl)))))))))))))))))),
  (52, .sl),
  (53, .sl),
  (54, (.agg (.pair (.int .i64) (.pair (.int .i64) (.pair (.int .i64) (.pair (.int .i64) (.pair (.int .i64) (.pair (.int .i64) (.pair (.int .i64) (.pair (.int .i64) (.pair (.int .i64) (.pair (.int .i64) (.pair (.int .i64) (.pair (.int .i64) (.pair (.int .i64) (.pair (.int .i64) (.pair (.int .i64) (.pair (.int .i64) (.pair (.int .i64) (.pair (.int .i64) (.pair (.int .i64) (.pair (.int .i64) (.pair (.int .i64) (.pair (.int .i64) (.pair (.int .i64) (.pair (.int .i64) (.pair (.int .i64) (.pair (.int .i64) (.pair (.int .i64) (.pair (.int .i64) (.pair (.int .i64) (.pair (.int .i64) (.pair (.int .i64) (.pair (.int .i64) (.pair (.int .i64) (.pair (.int .i64) (.pair (.int .i64) (.pair (.int .i64) (.pair (.int .i64) (.pair (.int .i64) (.pair (.int .i64) (.pair (.int .i64) (.pair (.int .i64) (.pair (.int .i64) (.pair (.int .i64) (.pair (.int .i64) (.pair (.int .i64) (.pair (.int .i64) (.pair (.int .i64) (.pair (.int .i64) (.pair (.int .i64) (.pair (.int .i64) (.pair (.int .i64) (.pair (.int .i64) (.pair (.int .i64) (.pair (.int .i64) (.pair (.int .i64) (.pair (.int .i64) (.pair (.int .i64) (.pair (.int .i64) (.pair (.int .i64) (.pair (.int .i64) (.pair (.int .i64) (.pair (.int .i64) (.pair (.int .i64) (.int .i64)))))))))))))))))))))))))))))))))))))))))))))))))))))))))))))))))),
  (61, (.agg (.pair (.int .i64) (.pair (.int .u8) (.int .i64))))),
  (66, (.agg (.pair (.int .i64) .sl))),
  (71, (.agg (.pair (.int .i64) (.pair (.int .i64) (.int .i64))))),
  (75, (.clo 38 .unit)),
  (76, .ptr),
  (78, (.agg (.pair .sl .bool))),
  (85, (.int .u64)),
  (96, (.int .i64)),
  (104, (.int .u32)),
  (106, (.int .u64)),
  (111, (.int .u64)),
  (115, .ptr),
  (117, .ptr)]
theorem tysOk : AllN (fun T t => tyFitsB Try.prog T t = true) tys :=
  ⟨(by kernel_rfl : tyFitsB Try.prog 3 (.int .i64) = true),
   (by kernel_rfl : tyFitsB Try.prog 4 .bool = true),
   (by kernel_rfl : tyFitsB Try.prog 22 .sl = true),
   (by kernel_rfl : tyFitsB Try.prog 24 .ptr = true),
   (by kernel_rfl : tyFitsB Try.prog 27 (.int .i64) = true),
   (by kernel_rfl : tyFitsB Try.prog 30 (.agg (.pair (.int .i64) (.pair (.int .i64) (.int .i64)))) = true),
   (by kernel_rfl : tyFitsB Try.prog 31 .sl = true),
   (by kernel_rfl : tyFitsB Try.prog 32 (.clo 55 (.pair .adr .adr)) = true),
   (by kernel_rfl : tyFitsB Try.prog 33 (.int .u8) = true),
   (by kernel_rfl : tyFitsB Try.prog 49 .sl = true),
   (by kernel_rfl : tyFitsB Try.prog 50 .sl = true),
   (by kernel_rfl : tyFitsB Try.prog 51 (.agg (.pair .sl (.pair .sl (.pair .sl (.pair .sl (.pair .sl (.pair .sl (.pair .sl (.pair .sl (.pair .sl (.pair .sl (.pair .sl (.pair .sl (.pair .sl (.pair .sl (.pair .sl (.pair .sl .sl))))))))))))))))) = true),
   (by kernel_rfl : tyFitsB Try.prog 52 .sl = true),
   (by kernel_rfl : tyFitsB Try.prog 53 .sl = true),
   (by kernel_rfl : tyFitsB Try.prog 54 (.agg (.pair (.int .i64) (.pair (.int .i64) (.pair (.int .i64) (.pair (.int .i64) (.pair (.int .i64) (.pair (.int .i64) (.pair (.int .i64) (.pair (.int .i64) (.pair (.int .i64) (.pair (.int .i64) (.pair (.int .i64) (.pair (.int .i64) (.pair (.int .i64) (.pair (.int .i64) (.pair (.int .i64) (.pair (.int .i64) (.pair (.int .i64) (.pair (.int .i64) (.pair (.int .i64) (.pair (.int .i64) (.pair (.int .i64) (.pair (.int .i64) (.pair (.int .i64) (.pair (.int .i64) (.pair (.int .i64) (.pair (.int .i64) (.pair (.int .i64) (.pair (.int .i64) (.pair (.int .i64) (.pair (.int .i64) (.pair (.int .i64) (.pair (.int .i64) (.pair (.int .i64) (.pair (.int .i64) (.pair (.int .i64) (.pair (.int .i64) (.pair (.int .i64) (.pair (.int .i64) (.pair (.int .i64) (.pair (.int .i64) (.pair (.int .i64) (.pair (.int .i64) (.pair (.int .i64) (.pair (.int .i64) (.pair (.int .i64) (.pair (.int .i64) (.pair (.int .i64) (.pair (.int .i64) (.pair (.int .i64) (.pair (.int .i64) (.pair (.int .i64) (.pair (.int .i64) (.pair (.int .i64) (.pair (.int .i64) (.pair (.int .i64) (.pair (.int .i64) (.pair (.int .i64) (.pair (.int .i64) (.pair (.int .i64) (.pair (.int .i64) (.pair (.int .i64) (.pair (.int .i64) (.pair (.int .i64) (.int .i64))))))))))))))))))))))))))))))))))))))))))))))))))))))))))))))))) = true),
   (by kernel_rfl : tyFitsB Try.prog 61 (.agg (.pair (.int .i64) (.pair (.int .u8) (.int .i64)))) = true),
   (by kernel_rfl : tyFitsB Try.prog 66 (.agg (.pair (.int .i64) .sl)) = true),
   (by kernel_rfl : tyFitsB Try.prog 71 (.agg (.pair (.int .i64) (.pair (.int .i64) (.int .i64)))) = true),
   (by kernel_rfl : tyFitsB Try.prog 75 (.clo 38 .unit) = true),
   (by kernel_rfl : tyFitsB Try.prog 76 .ptr = true),
   (by kernel_rfl : tyFitsB Try.prog 78 (.agg (.pair .sl .bool)) = true),
   (by kernel_rfl : tyFitsB Try.prog 85 (.int .u64) = true),
   (by kernel_rfl : tyFitsB Try.prog 96 (.int .i64) = true),
   (by kernel_rfl : tyFitsB Try.prog 104 (.int .u32) = true),
   (by kernel_rfl : tyFitsB Try.prog 106 (.int .u64) = true),
   (by kernel_rfl : tyFitsB Try.prog 111 (.int .u64) = true),
   (by kernel_rfl : tyFitsB Try.prog 115 .ptr = true),
   (by kernel_rfl : tyFitsB Try.prog 117 .ptr = true), trivial⟩
noncomputable def zeros : List (Nat × TV) := [(3, ⟨(.int .i64), (0 : Int)⟩),
  (31, ⟨.sl, (Sl.mk none 0 0)⟩),
  (32, ⟨.val, (Value.nilFunc)⟩),
  (61, ⟨(.agg (.pair (.int .i64) (.pair (.int .u8) (.int .i64)))), ((0 : Int), (0 : Int), (0 : Int))⟩),
  (66, ⟨(.agg (.pair (.int .i64) .sl)), ((0 : Int), (Sl.mk none 0 0))⟩),
  (71, ⟨(.agg (.pair (.int .i64) (.pair (.int .i64) (.int .i64)))), ((0 : Int), (0 : Int), (0 : Int))⟩),
  (78, ⟨(.agg (.pair .sl .bool)), ((Sl.mk none 0 0), false)⟩),
  (111, ⟨(.int .u64), (0 : Int)⟩)]
theorem zerosOk : AllN (fun T (z : TV) => ∃ i, Try.prog.info? T = some i ∧ i.zero = some z.v) zeros :=
  ⟨⟨_, (by kernel_rfl : Try.prog.info? 3 = some Try.t3), rfl⟩,
   ⟨_, (by kernel_rfl : Try.prog.info? 31 = some Try.t31), rfl⟩,
   ⟨_, (by kernel_rfl : Try.prog.info? 32 = some Try.t32), rfl⟩,
   ⟨_, (by kernel_rfl : Try.prog.info? 61 = some Try.t61), rfl⟩,
   ⟨_, (by kernel_rfl : Try.prog.info? 66 = some Try.t66), rfl⟩,
   ⟨_, (by kernel_rfl : Try.prog.info? 71 = some Try.t71), rfl⟩,
   ⟨_, (by kernel_rfl : Try.prog.info? 78 = some Try.t78), rfl⟩,
   ⟨_, (by kernel_rfl : Try.prog.info? 111 = some Try.t111), rfl⟩, trivial⟩
noncomputable def eqs : List (Nat × Ty) := []
theorem eqsOk : AllN (EqOk Try.prog) eqs := trivial
theorem mixed : Try.prog.follows .mixedOrders = true := by kernel_rfl
noncomputable def Gf51_cmp_isNaN (x0 : Int) : Bool :=
  (x0 != x0)
noncomputable def Cf51_cmp_isNaN : Ctx := mkC Try.prog tys zeros eqs [] []
/-- cmp.isNaNint -/
noncomputable def f51_cmp_isNaN (x0 : Int) : M Bool :=
  ret (x0 != x0)
noncomputable def Af51_cmp_isNaN : Ann := (.two .nil (.two .nil .nil))
theorem Cf51_cmp_isNaN_ok : Cf51_cmp_isNaN.Ok := mkC_ok mixed tysOk zerosOk eqsOk trivial trivial
theorem Ef51_cmp_isNaN (x : Int) : evF Cf51_cmp_isNaN Try.f51 6 (.int .i64) .bool Af51_cmp_isNaN x = f51_cmp_isNaN x := by kernel_rfl
theorem Sf51_cmp_isNaN : SoundF Try.prog 51 ⟨(.int .i64), .bool, fun x => f51_cmp_isNaN x⟩ :=
  soundF_of Cf51_cmp_isNaN_ok Try.func51 (by kernel_rfl) (by kernel_rfl) Ef51_cmp_isNaN
theorem Hf51_cmp_isNaN (x0 : Int) : f51_cmp_isNaN x0 = ret (Gf51_cmp_isNaN x0) := by
  simp only [f51_cmp_isNaN, Gf51_cmp_isNaN, bnd_ret, cnd_ret, bnd_cnd]
theorem Pf51_cmp_isNaN : SoundP Try.prog 51 ⟨(.int .i64), .bool, fun x => Gf51_cmp_isNaN x⟩ := soundP_of Sf51_cmp_isNaN fun x => Hf51_cmp_isNaN x
noncomputable def Gf40_cmp_Compare (x0 : Int) (x1 : Int) : Int :=
  (cond (Gf51_cmp_isNaN x0) (cond (Gf51_cmp_isNaN x1) (0 : Int) (-1 : Int)) (cond (Gf51_cmp_isNaN x1) (1 : Int) (cond (decide (x0 < x1)) (-1 : Int) (cond (decide (x0 > x1)) (1 : Int) (0 : Int)))))
noncomputable def Cf40_cmp_Compare : Ctx := mkC Try.prog tys zeros eqs [] [(51, ⟨(.int .i64), .bool, fun x => Gf51_cmp_isNaN x⟩)]
/-- cmp.Compareint -/
noncomputable def f40_cmp_Compare (x0 : Int) (x1 : Int) : M Int :=
  cnd (Gf51_cmp_isNaN x0) (
  cnd (Gf51_cmp_isNaN x1) (
  ret (0 : Int)) (
  ret (-1 : Int))) (
  cnd (Gf51_cmp_isNaN x1) (
  ret (1 : Int)) (
  cnd (decide (x0 < x1)) (
  ret (-1 : Int)) (
  cnd (decide (x0 > x1)) (
  ret (1 : Int)) (
  ret (0 : Int)))))
noncomputable def Af40_cmp_Compare : Ann := (.two .nil (.two .nil (.two .nil (.two (.two .nil (.two (.two (.two .nil (.two (.two .nil .nil) .nil)) (.two .nil .nil)) .nil)) (.two (.two .nil (.two (.two .nil .nil) .nil)) (.two (.two .nil (.two (.two .nil .nil) .nil)) (.two (.two .nil (.two (.two .nil .nil) .nil)) (.two .nil .nil))))))))
theorem Cf40_cmp_Compare_ok : Cf40_cmp_Compare.Ok := mkC_ok mixed tysOk zerosOk eqsOk trivial ⟨Pf51_cmp_isNaN, trivial⟩
theorem Ef40_cmp_Compare (x : (Int × Int)) : evF Cf40_cmp_Compare Try.f40 20 (.pair (.int .i64) (.int .i64)) (.int .i64) Af40_cmp_Compare x = f40_cmp_Compare x.1 x.2 := by kernel_rfl
theorem Sf40_cmp_Compare : SoundF Try.prog 40 ⟨(.pair (.int .i64) (.int .i64)), (.int .i64), fun x => f40_cmp_Compare x.1 x.2⟩ :=
  soundF_of Cf40_cmp_Compare_ok Try.func40 (by kernel_rfl) (by kernel_rfl) Ef40_cmp_Compare
theorem Hf40_cmp_Compare (x0 : Int) (x1 : Int) : f40_cmp_Compare x0 x1 = ret (Gf40_cmp_Compare x0 x1) := by
  simp only [f40_cmp_Compare, Gf40_cmp_Compare, bnd_ret, cnd_ret, bnd_cnd]
theorem Pf40_cmp_Compare : SoundP Try.prog 40 ⟨(.pair (.int .i64) (.int .i64)), (.int .i64), fun x => Gf40_cmp_Compare x.1 x.2⟩ := soundP_of Sf40_cmp_Compare fun x => Hf40_cmp_Compare x.1 x.2
noncomputable def Cf39_cmp_Or : Ctx := mkC Try.prog tys zeros eqs [] []
/-- cmp.Orint -/
noncomputable def f39_cmp_Or (x0 : Sl) : M Int :=
  loopM (fun (s1 : Int) =>
  cnd (decide (s1 < (x0.len : Int))) (
  bnd (ix 1 x0 s1) fun (p2 : Addr) =>
  bnd (ld (.int .i64) p2) fun (v3 : Int) =>
  cnd (v3 != (0 : Int)) (
  ret (Sum.inr v3)) (
  ret (Sum.inl (IntKind.wrap .i64 (s1 + (1 : Int)))))) (
  ret (Sum.inr (0 : Int)))) (0 : Int)
noncomputable def Af39_cmp_Or : Ann := (.two .nil (.two .nil (.two (.two .nil (.one (.loop [(8, (.int .i64))] [2, 5, 9, 10, 11, 12, 13, 14, 15, 16] (.two .nil (.two (.two .nil .nil) (.two (.one (.two .nil (.two .nil (.two (.two .nil .nil) .nil)))) .nil)))))) (.two .nil .nil))))
theorem Cf39_cmp_Or_ok : Cf39_cmp_Or.Ok := mkC_ok mixed tysOk zerosOk eqsOk trivial trivial
theorem Ef39_cmp_Or (x : Sl) : evF Cf39_cmp_Or Try.f39 18 .sl (.int .i64) Af39_cmp_Or x = f39_cmp_Or x := by kernel_rfl
theorem Sf39_cmp_Or : SoundF Try.prog 39 ⟨.sl, (.int .i64), fun x => f39_cmp_Or x⟩ :=
  soundF_of Cf39_cmp_Or_ok Try.func39 (by kernel_rfl) (by kernel_rfl) Ef39_cmp_Or
noncomputable def Cf38_sched_Sched_State_2 : Ctx := mkC Try.prog tys zeros eqs [(39, ⟨.sl, (.int .i64), fun x => f39_cmp_Or x⟩)] [(40, ⟨(.pair (.int .i64) (.int .i64)), (.int .i64), fun x => Gf40_cmp_Compare x.1 x.2⟩)]
/-- (*palaversched.Sched).State$2 -/
noncomputable def f38_sched_Sched_State_2 (x0 : (Int × (Int × Int))) (x1 : (Int × (Int × Int))) : M Int :=
  bnd (newC 71 [.int .i64 x0.1, .int .i64 x0.2.1, .int .i64 x0.2.2]) fun (p1 : Addr) =>
  bnd (newC 71 [.int .i64 x1.1, .int .i64 x1.2.1, .int .i64 x1.2.2]) fun (p2 : Addr) =>
  bnd (
  bnd (ordM 38 1 (regionIn 1 Try.f38)) fun (o4 : List Nat) =>
  bnd (ld (.int .i64) (Addr.add p1 0)) fun (v5 : Int) =>
  bnd (ld (.int .i64) (Addr.add p2 0)) fun (v6 : Int) =>
  bnd (ld (.int .i64) (Addr.add p1 1)) fun (v7 : Int) =>
  bnd (ld (.int .i64) (Addr.add p2 1)) fun (v8 : Int) =>
  bnd (
  bnd (chk (.int .i64) (Addr.add p2 1) v8) fun _ =>
  bnd (chk (.int .i64) (Addr.add p1 1) v7) fun _ =>
  ret ()) fun _ =>
  bnd (ret ()) fun _ =>
  bnd (runV Try.prog .sl (Instr.buildSlice 31 2 #[(0, .int .i64 (Gf40_cmp_Compare v5 v6)), (1, .int .i64 (Gf40_cmp_Compare v7 v8))])) fun (v9 : Sl) =>
  bnd (ret ()) fun _ =>
  bnd (f39_cmp_Or v9) fun (r10 : Int) =>
  bnd (ret ()) fun _ =>
  ret r10) fun (s3 : Int) =>
  ret s3
noncomputable def Af38_sched_Sched_State_2 : Ann := (.two .nil (.two (.join [(4, (.int .i64))] [5, 6, 7, 8, 9, 10, 11, 12, 13, 14, 15, 16] false (.ord 38 [(0, 8190), (1, 8188), (0, 8187), (4, 8179), (10, 8165), (0, 8159), (32, 8095), (0, 8063), (128, 7807), (336, 7359), (528, 6639), (1536, 5119), (4095, 2047)] (.o 0 (.o 1 (.o 2 (.o 3 (.o 5 (.o 6 (.o 7 (.o 8 (.o 4 (.o 9 (.o 10 (.o 11 (.o 12 .done))))))))))))))) .nil))
theorem Cf38_sched_Sched_State_2_ok : Cf38_sched_Sched_State_2.Ok := mkC_ok mixed tysOk zerosOk eqsOk ⟨Sf39_cmp_Or, trivial⟩ ⟨Pf40_cmp_Compare, trivial⟩
theorem Ef38_sched_Sched_State_2 (x : ((Int × (Int × Int)) × (Int × (Int × Int)))) : evF Cf38_sched_Sched_State_2 Try.f38 17 (.pair (.agg (.pair (.int .i64) (.pair (.int .i64) (.int .i64)))) (.agg (.pair (.int .i64) (.pair (.int .i64) (.int .i64))))) (.int .i64) Af38_sched_Sched_State_2 x = f38_sched_Sched_State_2 x.1 x.2 := by kernel_rfl
theorem Sf38_sched_Sched_State_2 : SoundF Try.prog 38 ⟨(.pair (.agg (.pair (.int .i64) (.pair (.int .i64) (.int .i64)))) (.agg (.pair (.int .i64) (.pair (.int .i64) (.int .i64))))), (.int .i64), fun x => f38_sched_Sched_State_2 x.1 x.2⟩ :=
  soundF_of Cf38_sched_Sched_State_2_ok Try.func38 (by kernel_rfl) (by kernel_rfl) Ef38_sched_Sched_State_2
noncomputable def Cf35_sched_Sched_State_1 : Ctx := mkC Try.prog tys zeros eqs [] []
/-- (*palaversched.Sched).State$1 -/
noncomputable def f35_sched_Sched_State_1 (x0 : Sl) (x1 : Addr) : M Unit :=
  bnd (ld .sl x1) fun (v1 : Sl) =>
  bnd (runV Try.prog .sl (Instr.buildSlice 31 1 #[(0, .int .i64 (x0.len : Int))])) fun (v2 : Sl) =>
  bnd (runV Try.prog .sl (Builtin.append_ #[31, 31] 31 #[.slice v1.a v1.len v1.cap, .slice v2.a v2.len v2.cap])) fun (v3 : Sl) =>
  bnd (wrs x1 0 [.slice v3.a v3.len v3.cap]) fun _ =>
  bnd (ld .sl x1) fun (v4 : Sl) =>
  bnd (runV Try.prog .sl (Builtin.append_ #[31, 31] 31 #[.slice v4.a v4.len v4.cap, .slice x0.a x0.len x0.cap])) fun (v5 : Sl) =>
  bnd (wrs x1 0 [.slice v5.a v5.len v5.cap]) fun _ =>
  ret ()
noncomputable def Af35_sched_Sched_State_1 : Ann := (.two .nil .nil)
theorem Cf35_sched_Sched_State_1_ok : Cf35_sched_Sched_State_1.Ok := mkC_ok mixed tysOk zerosOk eqsOk trivial trivial
theorem Ef35_sched_Sched_State_1 (x : (Sl × Addr)) : evF Cf35_sched_Sched_State_1 Try.f35 11 (.pair .sl .adr) (.tup .unit) Af35_sched_Sched_State_1 x = f35_sched_Sched_State_1 x.1 x.2 := by kernel_rfl
theorem Sf35_sched_Sched_State_1 : SoundF Try.prog 35 ⟨(.pair .sl .adr), (.tup .unit), fun x => f35_sched_Sched_State_1 x.1 x.2⟩ :=
  soundF_of Cf35_sched_Sched_State_1_ok Try.func35 (by kernel_rfl) (by kernel_rfl) Ef35_sched_Sched_State_1
noncomputable def Cf36_Clonetm : Ctx := mkC Try.prog tys zeros eqs [] []
/-- slices.Clonepalaversched.timerspalaversched.timer -/
noncomputable def f36_Clonetm (x0 : Sl) : M Sl :=
  cnd (Option.isNone x0.a) (
  ret (Sl.mk none 0 0)) (
  bnd (runV Try.prog .sl (Instr.buildSlice 53 0 #[])) fun (v1 : Sl) =>
  bnd (runV Try.prog .sl (Builtin.append_ #[53, 53] 53 #[.slice v1.a v1.len v1.cap, .slice x0.a x0.len x0.cap])) fun (v2 : Sl) =>
  ret v2)
noncomputable def Af36_Clonetm : Ann := (.two .nil (.two (.two .nil (.two (.two .nil .nil) .nil)) (.two .nil .nil)))
theorem Cf36_Clonetm_ok : Cf36_Clonetm.Ok := mkC_ok mixed tysOk zerosOk eqsOk trivial trivial
theorem Ef36_Clonetm (x : Sl) : evF Cf36_Clonetm Try.f36 8 .sl .sl Af36_Clonetm x = f36_Clonetm x := by kernel_rfl
theorem Sf36_Clonetm : SoundF Try.prog 36 ⟨.sl, .sl, fun x => f36_Clonetm x⟩ :=
  soundF_of Cf36_Clonetm_ok Try.func36 (by kernel_rfl) (by kernel_rfl) Ef36_Clonetm
noncomputable def Cf52_sched_reader_next : Ctx := mkC Try.prog tys zeros eqs [] []
/-- (*palaversched.reader).next -/
noncomputable def f52_sched_reader_next (x0 : Option Addr) (x1 : Int) (x2 : Int) : M Int :=
  bnd (drf x0) fun (p1 : Addr) =>
  bnd (ld .sl (Addr.add p1 0)) fun (v2 : Sl) =>
  bnd (
  cnd ((v2.len : Int) == (0 : Int)) (
  ret true) (
  bnd (drf x0) fun (p3 : Addr) =>
  bnd (ld .sl (Addr.add p3 0)) fun (v4 : Sl) =>
  bnd (ix 1 v4 (0 : Int)) fun (p5 : Addr) =>
  bnd (ld (.int .i64) p5) fun (v6 : Int) =>
  ret (decide (v6 < x1)))) fun (b7 : Bool) =>
  bnd (
  cnd b7 (
  ret true) (
  bnd (drf x0) fun (p8 : Addr) =>
  bnd (ld .sl (Addr.add p8 0)) fun (v9 : Sl) =>
  bnd (ix 1 v9 (0 : Int)) fun (p10 : Addr) =>
  bnd (ld (.int .i64) p10) fun (v11 : Int) =>
  ret (decide (v11 > x2)))) fun (b12 : Bool) =>
  bnd (
  cnd b12 (
  bnd (drf x0) fun (p14 : Addr) =>
  bnd (wrs (Addr.add p14 1) 0 [.bool true]) fun _ =>
  ret ()) (
  ret ())) fun (s13 : Unit) =>
  bnd (drf x0) fun (p15 : Addr) =>
  bnd (ld .bool (Addr.add p15 1)) fun (v16 : Bool) =>
  cnd v16 (
  ret x1) (
  bnd (drf x0) fun (p17 : Addr) =>
  bnd (ld .sl (Addr.add p17 0)) fun (v18 : Sl) =>
  bnd (ix 1 v18 (0 : Int)) fun (p19 : Addr) =>
  bnd (ld (.int .i64) p19) fun (v20 : Int) =>
  bnd (drf x0) fun (p21 : Addr) =>
  bnd (ld .sl (Addr.add p21 0)) fun (v22 : Sl) =>
  bnd (slc 1 v22 (some (1 : Int)) none none) fun (v23 : Sl) =>
  bnd (drf x0) fun (p24 : Addr) =>
  bnd (wrs (Addr.add p24 0) 0 [.slice v23.a v23.len v23.cap]) fun _ =>
  ret v20)
noncomputable def Af52_sched_reader_next : Ann := (.two .nil (.two (.two .nil (.join [] [34, 35, 36] false (.two .nil .nil))) (.two (.two .nil (.two (.two .nil .nil) .nil)) (.two .nil (.two .nil (.two .nil .nil))))))
theorem Cf52_sched_reader_next_ok : Cf52_sched_reader_next.Ok := mkC_ok mixed tysOk zerosOk eqsOk trivial trivial
theorem Ef52_sched_reader_next (x : (Option Addr × (Int × Int))) : evF Cf52_sched_reader_next Try.f52 57 (.pair .ptr (.pair (.int .i64) (.int .i64))) (.int .i64) Af52_sched_reader_next x = f52_sched_reader_next x.1 x.2.1 x.2.2 := by kernel_rfl
theorem Sf52_sched_reader_next : SoundF Try.prog 52 ⟨(.pair .ptr (.pair (.int .i64) (.int .i64))), (.int .i64), fun x => f52_sched_reader_next x.1 x.2.1 x.2.2⟩ :=
  soundF_of Cf52_sched_reader_next_ok Try.func52 (by kernel_rfl) (by kernel_rfl) Ef52_sched_reader_next
noncomputable def Cf74_bits_Len64 : Ctx := mkC Try.prog tys zeros eqs [] []
/-- mathbits.Len64 -/
noncomputable def f74_bits_Len64 (x0 : Int) : M Int :=
  bnd (
  cnd (decide (x0 ≥ (4294967296 : Int))) (
  ret ((shrI .u64 x0 32), (32 : Int))) (
  ret (x0, (0 : Int)))) fun (s1 : (Int × Int)) =>
  bnd (
  cnd (decide (s1.1 ≥ (65536 : Int))) (
  ret ((shrI .u64 s1.1 16), (IntKind.wrap .i64 (s1.2 + (16 : Int))))) (
  ret (s1.1, s1.2))) fun (s2 : (Int × Int)) =>
  bnd (
  cnd (decide (s2.1 ≥ (256 : Int))) (
  ret ((shrI .u64 s2.1 8), (IntKind.wrap .i64 (s2.2 + (8 : Int))))) (
  ret (s2.1, s2.2))) fun (s3 : (Int × Int)) =>
  bnd (ixS (ByteArray.mk #[0, 1, 2, 2, 3, 3, 3, 3, 4, 4, 4, 4, 4, 4, 4, 4, 5, 5, 5, 5, 5, 5, 5, 5, 5, 5, 5, 5, 5, 5, 5, 5, 6, 6, 6, 6, 6, 6, 6, 6, 6, 6, 6, 6, 6, 6, 6, 6, 6, 6, 6, 6, 6, 6, 6, 6, 6, 6, 6, 6, 6, 6, 6, 6, 7, 7, 7, 7, 7, 7, 7, 7, 7, 7, 7, 7, 7, 7, 7, 7, 7, 7, 7, 7, 7, 7, 7, 7, 7, 7, 7, 7, 7, 7, 7, 7, 7, 7, 7, 7, 7, 7, 7, 7, 7, 7, 7, 7, 7, 7, 7, 7, 7, 7, 7, 7, 7, 7, 7, 7, 7, 7, 7, 7, 7, 7, 7, 7, 8, 8, 8, 8, 8, 8, 8, 8, 8, 8, 8, 8, 8, 8, 8, 8, 8, 8, 8, 8, 8, 8, 8, 8, 8, 8, 8, 8, 8, 8, 8, 8, 8, 8, 8, 8, 8, 8, 8, 8, 8, 8, 8, 8, 8, 8, 8, 8, 8, 8, 8, 8, 8, 8, 8, 8, 8, 8, 8, 8, 8, 8, 8, 8, 8, 8, 8, 8, 8, 8, 8, 8, 8, 8, 8, 8, 8, 8, 8, 8, 8, 8, 8, 8, 8, 8, 8, 8, 8, 8, 8, 8, 8, 8, 8, 8, 8, 8, 8, 8, 8, 8, 8, 8, 8, 8, 8, 8, 8, 8, 8, 8, 8, 8, 8, 8, 8, 8, 8, 8, 8, 8, 8, 8, 8, 8, 8, 8]) (IntKind.wrap .u8 s3.1)) fun (v4 : Int) =>
  ret (IntKind.wrap .i64 (s3.2 + (IntKind.wrap .i64 v4)))
noncomputable def Af74_bits_Len64 : Ann := (.two .nil (.two (.two .nil (.join [(0, (.int .u64)), (2, (.int .i64))] [5, 6] false (.two (.two .nil .nil) .nil))) (.two (.two .nil (.join [(0, (.int .u64)), (2, (.int .i64))] [9, 10, 11, 12] false (.two (.two .nil .nil) .nil))) (.two (.two .nil (.join [(0, (.int .u64)), (2, (.int .i64))] [15, 16, 17, 18] false (.two (.two .nil .nil) .nil))) (.two .nil .nil)))))
theorem Cf74_bits_Len64_ok : Cf74_bits_Len64.Ok := mkC_ok mixed tysOk zerosOk eqsOk trivial trivial
theorem Ef74_bits_Len64 (x : Int) : evF Cf74_bits_Len64 Try.f74 25 (.int .u64) (.int .i64) Af74_bits_Len64 x = f74_bits_Len64 x := by kernel_rfl
theorem Sf74_bits_Len64 : SoundF Try.prog 74 ⟨(.int .u64), (.int .i64), fun x => f74_bits_Len64 x⟩ :=
  soundF_of Cf74_bits_Len64_ok Try.func74 (by kernel_rfl) (by kernel_rfl) Ef74_bits_Len64
noncomputable def Cf73_bits_Len32 : Ctx := mkC Try.prog tys zeros eqs [] []
/-- mathbits.Len32 -/
noncomputable def f73_bits_Len32 (x0 : Int) : M Int :=
  bnd (
  cnd (decide (x0 ≥ (65536 : Int))) (
  ret ((shrI .u32 x0 16), (16 : Int))) (
  ret (x0, (0 : Int)))) fun (s1 : (Int × Int)) =>
  bnd (
  cnd (decide (s1.1 ≥ (256 : Int))) (
  ret ((shrI .u32 s1.1 8), (IntKind.wrap .i64 (s1.2 + (8 : Int))))) (
  ret (s1.1, s1.2))) fun (s2 : (Int × Int)) =>
  bnd (ixS (ByteArray.mk #[0, 1, 2, 2, 3, 3, 3, 3, 4, 4, 4, 4, 4, 4, 4, 4, 5, 5, 5, 5, 5, 5, 5, 5, 5, 5, 5, 5, 5, 5, 5, 5, 6, 6, 6, 6, 6, 6, 6, 6, 6, 6, 6, 6, 6, 6, 6, 6, 6, 6, 6, 6, 6, 6, 6, 6, 6, 6, 6, 6, 6, 6, 6, 6, 7, 7, 7, 7, 7, 7, 7, 7, 7, 7, 7, 7, 7, 7, 7, 7, 7, 7, 7, 7, 7, 7, 7, 7, 7, 7, 7, 7, 7, 7, 7, 7, 7, 7, 7, 7, 7, 7, 7, 7, 7, 7, 7, 7, 7, 7, 7, 7, 7, 7, 7, 7, 7, 7, 7, 7, 7, 7, 7, 7, 7, 7, 7, 7, 8, 8, 8, 8, 8, 8, 8, 8, 8, 8, 8, 8, 8, 8, 8, 8, 8, 8, 8, 8, 8, 8, 8, 8, 8, 8, 8, 8, 8, 8, 8, 8, 8, 8, 8, 8, 8, 8, 8, 8, 8, 8, 8, 8, 8, 8, 8, 8, 8, 8, 8, 8, 8, 8, 8, 8, 8, 8, 8, 8, 8, 8, 8, 8, 8, 8, 8, 8, 8, 8, 8, 8, 8, 8, 8, 8, 8, 8, 8, 8, 8, 8, 8, 8, 8, 8, 8, 8, 8, 8, 8, 8, 8, 8, 8, 8, 8, 8, 8, 8, 8, 8, 8, 8, 8, 8, 8, 8, 8, 8, 8, 8, 8, 8, 8, 8, 8, 8, 8, 8, 8, 8, 8, 8, 8, 8, 8, 8]) (IntKind.wrap .u8 s2.1)) fun (v3 : Int) =>
  ret (IntKind.wrap .i64 (s2.2 + (IntKind.wrap .i64 v3)))
noncomputable def Af73_bits_Len32 : Ann := (.two .nil (.two (.two .nil (.join [(0, (.int .u32)), (2, (.int .i64))] [5, 6] false (.two (.two .nil .nil) .nil))) (.two (.two .nil (.join [(0, (.int .u32)), (2, (.int .i64))] [9, 10, 11, 12] false (.two (.two .nil .nil) .nil))) (.two .nil .nil))))
theorem Cf73_bits_Len32_ok : Cf73_bits_Len32.Ok := mkC_ok mixed tysOk zerosOk eqsOk trivial trivial
theorem Ef73_bits_Len32 (x : Int) : evF Cf73_bits_Len32 Try.f73 19 (.int .u32) (.int .i64) Af73_bits_Len32 x = f73_bits_Len32 x := by kernel_rfl
theorem Sf73_bits_Len32 : SoundF Try.prog 73 ⟨(.int .u32), (.int .i64), fun x => f73_bits_Len32 x⟩ :=
  soundF_of Cf73_bits_Len32_ok Try.func73 (by kernel_rfl) (by kernel_rfl) Ef73_bits_Len32
noncomputable def Cf50_bits_Len : Ctx := mkC Try.prog tys zeros eqs [(73, ⟨(.int .u32), (.int .i64), fun x => f73_bits_Len32 x⟩), (74, ⟨(.int .u64), (.int .i64), fun x => f74_bits_Len64 x⟩)] []
/-- mathbits.Len -/
noncomputable def f50_bits_Len (x0 : Int) : M Int :=
  cnd false (
  bnd (f73_bits_Len32 (IntKind.wrap .u32 x0)) fun (r1 : Int) =>
  ret r1) (
  bnd (f74_bits_Len64 x0) fun (r2 : Int) =>
  ret r2)
noncomputable def Af50_bits_Len : Ann := (.two .nil (.two (.two (.two .nil .nil) .nil) (.two .nil .nil)))
theorem Cf50_bits_Len_ok : Cf50_bits_Len.Ok := mkC_ok mixed tysOk zerosOk eqsOk ⟨Sf73_bits_Len32, Sf74_bits_Len64, trivial⟩ trivial
theorem Ef50_bits_Len (x : Int) : evF Cf50_bits_Len Try.f50 8 (.int .u64) (.int .i64) Af50_bits_Len x = f50_bits_Len x := by kernel_rfl
theorem Sf50_bits_Len : SoundF Try.prog 50 ⟨(.int .u64), (.int .i64), fun x => f50_bits_Len x⟩ :=
  soundF_of Cf50_bits_Len_ok Try.func50 (by kernel_rfl) (by kernel_rfl) Ef50_bits_Len
noncomputable def Cf82_order2 : Ctx := mkC Try.prog tys zeros eqs [(38, ⟨(.pair (.agg (.pair (.int .i64) (.pair (.int .i64) (.int .i64)))) (.agg (.pair (.int .i64) (.pair (.int .i64) (.int .i64))))), (.int .i64), fun x => f38_sched_Sched_State_2 x.1 x.2⟩)] []
/-- slices.order2CmpFuncpalaversched.timer -/
noncomputable def f82_order2 (x0 : Sl) (x1 : Int) (x2 : Int) (x3 : Option Addr) (x4 : Unit) : M (Int × Int) :=
  bnd (
  bnd (ordM 82 1 (regionIn 1 Try.f82)) fun (o2 : List Nat) =>
  bnd (ix 3 x0 x2) fun (p3 : Addr) =>
  bnd (ld (.agg (.pair (.int .i64) (.pair (.int .i64) (.int .i64)))) p3) fun (v4 : (Int × (Int × Int))) =>
  bnd (ix 3 x0 x1) fun (p5 : Addr) =>
  bnd (ld (.agg (.pair (.int .i64) (.pair (.int .i64) (.int .i64)))) p5) fun (v6 : (Int × (Int × Int))) =>
  bnd (f38_sched_Sched_State_2 v4 v6) fun (r7 : Int) =>
  bnd (ret ()) fun _ =>
  ret (decide (r7 < (0 : Int)))) fun (s1 : Bool) =>
  cnd s1 (
  bnd (drf x3) fun (p8 : Addr) =>
  bnd (ld (.int .i64) p8) fun (v9 : Int) =>
  bnd (drf x3) fun (p10 : Addr) =>
  bnd (wrs p10 0 [.int .i64 (IntKind.wrap .i64 (v9 + (1 : Int)))]) fun _ =>
  ret (x2, x1)) (
  ret (x1, x2))
noncomputable def Af82_order2 : Ann := (.two .nil (.two (.two (.join [(22, .bool)] [12, 13, 14, 15, 16, 17, 18, 19, 20, 21] false (.ord 82 [(0, 2046), (0, 2045), (0, 2043), (6, 2033), (8, 2023), (0, 2015), (0, 1983), (96, 1823), (128, 1663), (273, 1262), (512, 511)] (.o 0 (.o 1 (.o 2 (.o 3 (.o 4 (.o 5 (.o 6 (.o 7 (.o 8 (.o 9 (.o 10 .done))))))))))))) (.two (.two .nil (.two .nil .nil)) .nil)) (.two .nil .nil)))
theorem Cf82_order2_ok : Cf82_order2.Ok := mkC_ok mixed tysOk zerosOk eqsOk ⟨Sf38_sched_Sched_State_2, trivial⟩ trivial
theorem Ef82_order2 (x : (Sl × (Int × (Int × (Option Addr × Unit))))) : evF Cf82_order2 Try.f82 32 (.pair .sl (.pair (.int .i64) (.pair (.int .i64) (.pair .ptr (.clo 38 .unit))))) (.tup (.pair (.int .i64) (.int .i64))) Af82_order2 x = f82_order2 x.1 x.2.1 x.2.2.1 x.2.2.2.1 x.2.2.2.2 := by kernel_rfl
theorem Sf82_order2 : SoundF Try.prog 82 ⟨(.pair .sl (.pair (.int .i64) (.pair (.int .i64) (.pair .ptr (.clo 38 .unit))))), (.tup (.pair (.int .i64) (.int .i64))), fun x => f82_order2 x.1 x.2.1 x.2.2.1 x.2.2.2.1 x.2.2.2.2⟩ :=
  soundF_of Cf82_order2_ok Try.func82 (by kernel_rfl) (by kernel_rfl) Ef82_order2
noncomputable def Cf81_median : Ctx := mkC Try.prog tys zeros eqs [(82, ⟨(.pair .sl (.pair (.int .i64) (.pair (.int .i64) (.pair .ptr (.clo 38 .unit))))), (.tup (.pair (.int .i64) (.int .i64))), fun x => f82_order2 x.1 x.2.1 x.2.2.1 x.2.2.2.1 x.2.2.2.2⟩)] []
/-- slices.medianCmpFuncpalaversched.timer -/
noncomputable def f81_median (x0 : Sl) (x1 : Int) (x2 : Int) (x3 : Int) (x4 : Option Addr) (x5 : Unit) : M Int :=
  bnd (f82_order2 x0 x1 x2 x4 x5) fun (r1 : (Int × Int)) =>
  bnd (f82_order2 x0 r1.2 x3 x4 x5) fun (r2 : (Int × Int)) =>
  bnd (f82_order2 x0 r1.1 r2.1 x4 x5) fun (r3 : (Int × Int)) =>
  ret r3.2
noncomputable def Af81_median : Ann := (.two .nil (.two .nil (.two .nil (.two .nil (.two .nil .nil)))))
theorem Cf81_median_ok : Cf81_median.Ok := mkC_ok mixed tysOk zerosOk eqsOk ⟨Sf82_order2, trivial⟩ trivial
theorem Ef81_median (x : (Sl × (Int × (Int × (Int × (Option Addr × Unit)))))) : evF Cf81_median Try.f81 41 (.pair .sl (.pair (.int .i64) (.pair (.int .i64) (.pair (.int .i64) (.pair .ptr (.clo 38 .unit)))))) (.int .i64) Af81_median x = f81_median x.1 x.2.1 x.2.2.1 x.2.2.2.1 x.2.2.2.2.1 x.2.2.2.2.2 := by kernel_rfl
theorem Sf81_median : SoundF Try.prog 81 ⟨(.pair .sl (.pair (.int .i64) (.pair (.int .i64) (.pair (.int .i64) (.pair .ptr (.clo 38 .unit)))))), (.int .i64), fun x => f81_median x.1 x.2.1 x.2.2.1 x.2.2.2.1 x.2.2.2.2.1 x.2.2.2.2.2⟩ :=
  soundF_of Cf81_median_ok Try.func81 (by kernel_rfl) (by kernel_rfl) Ef81_median
noncomputable def Cf80_medianAdj : Ctx := mkC Try.prog tys zeros eqs [(81, ⟨(.pair .sl (.pair (.int .i64) (.pair (.int .i64) (.pair (.int .i64) (.pair .ptr (.clo 38 .unit)))))), (.int .i64), fun x => f81_median x.1 x.2.1 x.2.2.1 x.2.2.2.1 x.2.2.2.2.1 x.2.2.2.2.2⟩)] []
/-- slices.medianAdjacentCmpFuncpalaversched.timer -/
noncomputable def f80_medianAdj (x0 : Sl) (x1 : Int) (x2 : Option Addr) (x3 : Unit) : M Int :=
  bnd (f81_median x0 (IntKind.wrap .i64 (x1 - (1 : Int))) x1 (IntKind.wrap .i64 (x1 + (1 : Int))) x2 x3) fun (r1 : Int) =>
  ret r1
noncomputable def Af80_medianAdj : Ann := (.two .nil (.two .nil .nil))
theorem Cf80_medianAdj_ok : Cf80_medianAdj.Ok := mkC_ok mixed tysOk zerosOk eqsOk ⟨Sf81_median, trivial⟩ trivial
theorem Ef80_medianAdj (x : (Sl × (Int × (Option Addr × Unit)))) : evF Cf80_medianAdj Try.f80 18 (.pair .sl (.pair (.int .i64) (.pair .ptr (.clo 38 .unit)))) (.int .i64) Af80_medianAdj x = f80_medianAdj x.1 x.2.1 x.2.2.1 x.2.2.2 := by kernel_rfl
theorem Sf80_medianAdj : SoundF Try.prog 80 ⟨(.pair .sl (.pair (.int .i64) (.pair .ptr (.clo 38 .unit)))), (.int .i64), fun x => f80_medianAdj x.1 x.2.1 x.2.2.1 x.2.2.2⟩ :=
  soundF_of Cf80_medianAdj_ok Try.func80 (by kernel_rfl) (by kernel_rfl) Ef80_medianAdj
noncomputable def Cf79_slices_xorshift_Next : Ctx := mkC Try.prog tys zeros eqs [] []
/-- (*slices.xorshift).Next -/
noncomputable def f79_slices_xorshift_Next (x0 : Option Addr) : M Int :=
  bnd (
  bnd (ordM 79 1 (regionIn 1 Try.f79)) fun (o2 : List Nat) =>
  bnd (drf x0) fun (p3 : Addr) =>
  bnd (ld (.int .u64) p3) fun (v4 : Int) =>
  bnd (drf x0) fun (p5 : Addr) =>
  bnd (ld (.int .u64) p5) fun (v6 : Int) =>
  bnd (drf x0) fun (p7 : Addr) =>
  bnd (wrs p7 0 [.int .u64 (bXor .u64 v4 (shlI .u64 v6 13))]) fun _ =>
  bnd (ret ()) fun _ =>
  ret ()) fun (s1 : Unit) =>
  bnd (
  bnd (ordM 79 2 (regionIn 2 Try.f79)) fun (o9 : List Nat) =>
  bnd (drf x0) fun (p10 : Addr) =>
  bnd (ld (.int .u64) p10) fun (v11 : Int) =>
  bnd (drf x0) fun (p12 : Addr) =>
  bnd (ld (.int .u64) p12) fun (v13 : Int) =>
  bnd (drf x0) fun (p14 : Addr) =>
  bnd (wrs p14 0 [.int .u64 (bXor .u64 v11 (shrI .u64 v13 7))]) fun _ =>
  bnd (ret ()) fun _ =>
  ret ()) fun (s8 : Unit) =>
  bnd (
  bnd (ordM 79 3 (regionIn 3 Try.f79)) fun (o16 : List Nat) =>
  bnd (drf x0) fun (p17 : Addr) =>
  bnd (ld (.int .u64) p17) fun (v18 : Int) =>
  bnd (drf x0) fun (p19 : Addr) =>
  bnd (ld (.int .u64) p19) fun (v20 : Int) =>
  bnd (drf x0) fun (p21 : Addr) =>
  bnd (wrs p21 0 [.int .u64 (bXor .u64 v18 (shlI .u64 v20 17))]) fun _ =>
  bnd (ret ()) fun _ =>
  ret ()) fun (s15 : Unit) =>
  bnd (drf x0) fun (p22 : Addr) =>
  bnd (ld (.int .u64) p22) fun (v23 : Int) =>
  ret v23
noncomputable def Af79_slices_xorshift_Next : Ann := (.two .nil (.two (.join [] [3, 4, 5, 6, 7, 8, 9, 10, 11] false (.ord 79 [(0, 1022), (1, 1020), (2, 1017), (0, 1015), (8, 999), (16, 975), (32, 927), (68, 827), (255, 766), (511, 127)] (.o 0 (.o 1 (.o 2 (.o 3 (.o 4 (.o 5 (.o 6 (.o 7 (.o 8 (.o 9 .done)))))))))))) (.two (.join [] [12, 13, 14, 15, 16, 17, 18, 19, 20] false (.ord 79 [(0, 1022), (1, 1020), (2, 1017), (0, 1015), (8, 999), (16, 975), (32, 927), (68, 827), (255, 766), (511, 127)] (.o 0 (.o 1 (.o 2 (.o 3 (.o 4 (.o 5 (.o 6 (.o 7 (.o 8 (.o 9 .done)))))))))))) (.two (.join [] [21, 22, 23, 24, 25, 26, 27, 28, 29] false (.ord 79 [(0, 1022), (1, 1020), (2, 1017), (0, 1015), (8, 999), (16, 975), (32, 927), (68, 827), (255, 766), (511, 127)] (.o 0 (.o 1 (.o 2 (.o 3 (.o 4 (.o 5 (.o 6 (.o 7 (.o 8 (.o 9 .done)))))))))))) (.two .nil .nil)))))
theorem Cf79_slices_xorshift_Next_ok : Cf79_slices_xorshift_Next.Ok := mkC_ok mixed tysOk zerosOk eqsOk trivial trivial
theorem Ef79_slices_xorshift_Next (x : Option Addr) : evF Cf79_slices_xorshift_Next Try.f79 33 .ptr (.int .u64) Af79_slices_xorshift_Next x = f79_slices_xorshift_Next x := by kernel_rfl
theorem Sf79_slices_xorshift_Next : SoundF Try.prog 79 ⟨.ptr, (.int .u64), fun x => f79_slices_xorshift_Next x⟩ :=
  soundF_of Cf79_slices_xorshift_Next_ok Try.func79 (by kernel_rfl) (by kernel_rfl) Ef79_slices_xorshift_Next
noncomputable def Cf78_slices_nextPowerOfTwo : Ctx := mkC Try.prog tys zeros eqs [(50, ⟨(.int .u64), (.int .i64), fun x => f50_bits_Len x⟩)] []
/-- slices.nextPowerOfTwo -/
noncomputable def f78_slices_nextPowerOfTwo (x0 : Int) : M Int :=
  bnd (f50_bits_Len (IntKind.wrap .u64 x0)) fun (r1 : Int) =>
  bnd (cnt r1) fun (c2 : Nat) =>
  ret (shlI .u64 (1 : Int) c2)
noncomputable def Af78_slices_nextPowerOfTwo : Ann := (.two .nil (.two .nil .nil))
theorem Cf78_slices_nextPowerOfTwo_ok : Cf78_slices_nextPowerOfTwo.Ok := mkC_ok mixed tysOk zerosOk eqsOk ⟨Sf50_bits_Len, trivial⟩ trivial
theorem Ef78_slices_nextPowerOfTwo (x : Int) : evF Cf78_slices_nextPowerOfTwo Try.f78 7 (.int .i64) (.int .u64) Af78_slices_nextPowerOfTwo x = f78_slices_nextPowerOfTwo x := by kernel_rfl
theorem Sf78_slices_nextPowerOfTwo : SoundF Try.prog 78 ⟨(.int .i64), (.int .u64), fun x => f78_slices_nextPowerOfTwo x⟩ :=
  soundF_of Cf78_slices_nextPowerOfTwo_ok Try.func78 (by kernel_rfl) (by kernel_rfl) Ef78_slices_nextPowerOfTwo
noncomputable def Cf77_siftDown : Ctx := mkC Try.prog tys zeros eqs [(38, ⟨(.pair (.agg (.pair (.int .i64) (.pair (.int .i64) (.int .i64)))) (.agg (.pair (.int .i64) (.pair (.int .i64) (.int .i64))))), (.int .i64), fun x => f38_sched_Sched_State_2 x.1 x.2⟩)] []
/-- slices.siftDownCmpFuncpalaversched.timer -/
noncomputable def f77_siftDown (x0 : Sl) (x1 : Int) (x2 : Int) (x3 : Int) (x4 : Unit) : M Unit :=
  loopM (fun (s1 : Int) =>
  cnd (decide ((IntKind.wrap .i64 ((IntKind.wrap .i64 ((2 : Int) * s1)) + (1 : Int))) ≥ x2)) (
  ret (Sum.inr ())) (
  bnd (
  bnd (ordM 77 3 (regionIn 3 Try.f77)) fun (o3 : List Nat) =>
  cnd (decide ((IntKind.wrap .i64 ((IntKind.wrap .i64 ((IntKind.wrap .i64 ((2 : Int) * s1)) + (1 : Int))) + (1 : Int))) < x2)) (
  bnd (ix 3 x0 (IntKind.wrap .i64 (x3 + (IntKind.wrap .i64 ((IntKind.wrap .i64 ((2 : Int) * s1)) + (1 : Int)))))) fun (p4 : Addr) =>
  bnd (ld (.agg (.pair (.int .i64) (.pair (.int .i64) (.int .i64)))) p4) fun (v5 : (Int × (Int × Int))) =>
  bnd (ix 3 x0 (IntKind.wrap .i64 ((IntKind.wrap .i64 (x3 + (IntKind.wrap .i64 ((IntKind.wrap .i64 ((2 : Int) * s1)) + (1 : Int))))) + (1 : Int)))) fun (p6 : Addr) =>
  bnd (ld (.agg (.pair (.int .i64) (.pair (.int .i64) (.int .i64)))) p6) fun (v7 : (Int × (Int × Int))) =>
  bnd (f38_sched_Sched_State_2 v5 v7) fun (r8 : Int) =>
  bnd (ret ()) fun _ =>
  ret (decide (r8 < (0 : Int)))) (
  bnd (ret ()) fun _ =>
  ret false)) fun (s2 : Bool) =>
  bnd (
  cnd s2 (
  ret (IntKind.wrap .i64 ((IntKind.wrap .i64 ((IntKind.wrap .i64 ((2 : Int) * s1)) + (1 : Int))) + (1 : Int)))) (
  ret (IntKind.wrap .i64 ((IntKind.wrap .i64 ((2 : Int) * s1)) + (1 : Int))))) fun (s9 : Int) =>
  bnd (
  bnd (ordM 77 5 (regionIn 5 Try.f77)) fun (o11 : List Nat) =>
  bnd (ix 3 x0 (IntKind.wrap .i64 (x3 + s1))) fun (p12 : Addr) =>
  bnd (ld (.agg (.pair (.int .i64) (.pair (.int .i64) (.int .i64)))) p12) fun (v13 : (Int × (Int × Int))) =>
  bnd (ix 3 x0 (IntKind.wrap .i64 (x3 + s9))) fun (p14 : Addr) =>
  bnd (ld (.agg (.pair (.int .i64) (.pair (.int .i64) (.int .i64)))) p14) fun (v15 : (Int × (Int × Int))) =>
  bnd (f38_sched_Sched_State_2 v13 v15) fun (r16 : Int) =>
  bnd (ret ()) fun _ =>
  ret (!(decide (r16 < (0 : Int))))) fun (s10 : Bool) =>
  cnd s10 (
  ret (Sum.inr ())) (
  bnd (
  bnd (ordM 77 6 (regionIn 6 Try.f77)) fun (o18 : List Nat) =>
  bnd (ix 3 x0 (IntKind.wrap .i64 (x3 + s9))) fun (p19 : Addr) =>
  bnd (ld (.agg (.pair (.int .i64) (.pair (.int .i64) (.int .i64)))) p19) fun (v20 : (Int × (Int × Int))) =>
  bnd (ix 3 x0 (IntKind.wrap .i64 (x3 + s1))) fun (p21 : Addr) =>
  bnd (ld (.agg (.pair (.int .i64) (.pair (.int .i64) (.int .i64)))) p21) fun (v22 : (Int × (Int × Int))) =>
  bnd (ix 3 x0 (IntKind.wrap .i64 (x3 + s1))) fun (p23 : Addr) =>
  bnd (wrs p23 0 [.int .i64 v20.1, .int .i64 v20.2.1, .int .i64 v20.2.2]) fun _ =>
  bnd (ret ()) fun _ =>
  bnd (ix 3 x0 (IntKind.wrap .i64 (x3 + s9))) fun (p24 : Addr) =>
  bnd (wrs p24 0 [.int .i64 v22.1, .int .i64 v22.2.1, .int .i64 v22.2.2]) fun _ =>
  bnd (ret ()) fun _ =>
  ret ()) fun (s17 : Unit) =>
  ret (Sum.inl s9)))) x1
noncomputable def Af77_siftDown : Ann := (.two .nil (.one (.loop [(10, (.int .i64))] [11, 13, 14, 15, 16, 17, 18, 19, 20, 21, 22, 23, 24, 25, 26, 27, 28, 29, 30, 31, 32, 33, 34, 35, 36, 37, 38, 39, 40, 41, 42, 43, 44, 45, 46, 47, 48, 49, 50, 51, 52, 53, 54, 55, 56, 57, 58, 59, 60, 61, 62, 63, 64, 65, 66, 67, 68, 69, 70, 71, 72, 73, 74, 75, 76, 77, 78, 79, 80, 81] (.one (.two .nil (.two (.two .nil (.two .nil .nil)) (.two (.two (.join [(40, .bool)] [19, 20, 21, 22, 23, 24, 25, 26, 27, 28, 29, 30, 31, 32, 33, 34, 35, 36, 37, 38, 39] false (.ord 77 [(0, 4194302), (1, 4194300), (0, 4194299), (6, 4194289), (8, 4194279), (16, 4194255), (16, 4194223), (16, 4194159), (16, 4194031), (400, 4193391), (592, 4192687), (1040, 4191215), (16, 4190191), (16, 4186095), (16, 4177903), (24592, 4136943), (32784, 4095983), (69648, 3993583), (131088, 3801071), (264240, 3405775), (524304, 2621423), (1048592, 1048559)] (.o 0 (.o 1 (.o 2 (.o 3 (.o 4 (.s 23 (.o 5 (.o 6 (.o 7 (.o 8 (.o 9 (.o 10 (.o 11 (.o 12 (.o 13 (.o 14 (.o 15 (.o 16 (.o 17 (.o 18 (.o 19 (.o 20 (.o 21 .done))))))))))))))))) (.o 5 (.o 6 (.o 7 (.o 8 (.o 9 (.o 10 (.o 11 (.o 12 (.o 13 (.o 14 (.o 15 (.o 16 (.o 17 (.o 18 (.o 19 (.o 20 (.o 21 .done))))))))))))))))))))))))) (.join [(11, (.int .i64))] [41, 42] false (.two .nil .nil))) (.two (.two (.join [(58, .bool)] [43, 44, 45, 46, 47, 48, 49, 50, 51, 52, 53, 54, 55, 56, 57] false (.ord 77 [(0, 65534), (0, 65533), (0, 65531), (0, 65527), (12, 65507), (18, 65485), (32, 65439), (0, 65407), (0, 65279), (0, 65023), (768, 63743), (1152, 62335), (2048, 59391), (4161, 53182), (8192, 40959), (16384, 16383)] (.o 0 (.o 1 (.o 2 (.o 3 (.o 4 (.o 5 (.o 6 (.o 7 (.o 8 (.o 9 (.o 10 (.o 11 (.o 12 (.o 13 (.o 14 (.o 15 .done)))))))))))))))))) (.two .nil .nil)) (.two (.join [] [59, 60, 61, 62, 63, 64, 65, 66, 67, 68, 69, 70, 71, 72, 73, 74, 75, 76, 77, 78, 79, 80] false (.ord 77 [(0, 16777214), (0, 16777213), (0, 16777211), (6, 16777201), (0, 16777199), (0, 16777183), (0, 16777151), (96, 16776991), (0, 16776959), (0, 16776703), (0, 16776191), (1536, 16773631), (2304, 16770815), (4096, 16764927), (0, 16760831), (0, 16744447), (0, 16711679), (98304, 16547839), (147456, 16367615), (262144, 15990783), (540431, 15728630), (1589007, 13623295), (4194303, 12582767), (8388607, 3670015)] (.o 0 (.o 1 (.o 2 (.o 3 (.o 4 (.o 5 (.o 6 (.o 7 (.o 8 (.o 9 (.o 10 (.o 11 (.o 12 (.o 13 (.o 14 (.o 15 (.o 16 (.o 17 (.o 18 (.o 19 (.o 20 (.o 21 (.o 22 (.o 23 .done)))))))))))))))))))))))))) .nil)))))))))
theorem Cf77_siftDown_ok : Cf77_siftDown.Ok := mkC_ok mixed tysOk zerosOk eqsOk ⟨Sf38_sched_Sched_State_2, trivial⟩ trivial
theorem Ef77_siftDown (x : (Sl × (Int × (Int × (Int × Unit))))) : evF Cf77_siftDown Try.f77 82 (.pair .sl (.pair (.int .i64) (.pair (.int .i64) (.pair (.int .i64) (.clo 38 .unit))))) (.tup .unit) Af77_siftDown x = f77_siftDown x.1 x.2.1 x.2.2.1 x.2.2.2.1 x.2.2.2.2 := by kernel_rfl
theorem Sf77_siftDown : SoundF Try.prog 77 ⟨(.pair .sl (.pair (.int .i64) (.pair (.int .i64) (.pair (.int .i64) (.clo 38 .unit))))), (.tup .unit), fun x => f77_siftDown x.1 x.2.1 x.2.2.1 x.2.2.2.1 x.2.2.2.2⟩ :=
  soundF_of Cf77_siftDown_ok Try.func77 (by kernel_rfl) (by kernel_rfl) Ef77_siftDown
noncomputable def Cf65_insertion : Ctx := mkC Try.prog tys zeros eqs [(38, ⟨(.pair (.agg (.pair (.int .i64) (.pair (.int .i64) (.int .i64)))) (.agg (.pair (.int .i64) (.pair (.int .i64) (.int .i64))))), (.int .i64), fun x => f38_sched_Sched_State_2 x.1 x.2⟩)] []
/-- slices.insertionSortCmpFuncpalaversched.timer -/
noncomputable def f65_insertion (x0 : Sl) (x1 : Int) (x2 : Int) (x3 : Unit) : M Unit :=
  loopM (fun (s1 : Int) =>
  cnd (decide (s1 < x2)) (
  loopM (fun (s2 : Int) =>
  bnd (
  bnd (ordM 65 4 (regionIn 4 Try.f65)) fun (o4 : List Nat) =>
  cnd (decide (s2 > x1)) (
  bnd (ix 3 x0 s2) fun (p5 : Addr) =>
  bnd (ld (.agg (.pair (.int .i64) (.pair (.int .i64) (.int .i64)))) p5) fun (v6 : (Int × (Int × Int))) =>
  bnd (ix 3 x0 (IntKind.wrap .i64 (s2 - (1 : Int)))) fun (p7 : Addr) =>
  bnd (ld (.agg (.pair (.int .i64) (.pair (.int .i64) (.int .i64)))) p7) fun (v8 : (Int × (Int × Int))) =>
  bnd (f38_sched_Sched_State_2 v6 v8) fun (r9 : Int) =>
  bnd (ret ()) fun _ =>
  ret (decide (r9 < (0 : Int)))) (
  bnd (ret ()) fun _ =>
  ret false)) fun (s3 : Bool) =>
  cnd s3 (
  bnd (
  bnd (ordM 65 6 (regionIn 6 Try.f65)) fun (o11 : List Nat) =>
  bnd (ix 3 x0 (IntKind.wrap .i64 (s2 - (1 : Int)))) fun (p12 : Addr) =>
  bnd (ld (.agg (.pair (.int .i64) (.pair (.int .i64) (.int .i64)))) p12) fun (v13 : (Int × (Int × Int))) =>
  bnd (ix 3 x0 s2) fun (p14 : Addr) =>
  bnd (ld (.agg (.pair (.int .i64) (.pair (.int .i64) (.int .i64)))) p14) fun (v15 : (Int × (Int × Int))) =>
  bnd (ix 3 x0 s2) fun (p16 : Addr) =>
  bnd (wrs p16 0 [.int .i64 v13.1, .int .i64 v13.2.1, .int .i64 v13.2.2]) fun _ =>
  bnd (ret ()) fun _ =>
  bnd (ix 3 x0 (IntKind.wrap .i64 (s2 - (1 : Int)))) fun (p17 : Addr) =>
  bnd (wrs p17 0 [.int .i64 v15.1, .int .i64 v15.2.1, .int .i64 v15.2.2]) fun _ =>
  bnd (ret ()) fun _ =>
  ret ()) fun (s10 : Unit) =>
  ret (Sum.inl (IntKind.wrap .i64 (s2 - (1 : Int))))) (
  ret (Sum.inr (Sum.inl (IntKind.wrap .i64 (s1 + (1 : Int))))))) s1) (
  ret (Sum.inr ()))) (IntKind.wrap .i64 (x1 + (1 : Int)))
noncomputable def Af65_insertion : Ann := (.two .nil (.one (.loop [(8, (.int .i64))] [9, 12, 13, 14, 15, 16, 17, 18, 19, 20, 21, 22, 23, 24, 25, 26, 27, 28, 29, 30, 31, 32, 33, 34, 35, 36, 37, 38, 39, 40, 41, 42, 43, 44, 45, 46, 47, 48, 49, 50, 51, 52] (.two (.two .nil (.two .nil .nil)) (.two (.one (.two .nil (.one (.loop [(9, (.int .i64))] [18, 19, 20, 21, 22, 23, 24, 25, 26, 27, 28, 29, 30, 31, 32, 33, 34, 35, 36, 37, 38, 39, 40, 41, 42, 43, 44, 45, 46, 47, 48, 49, 50, 51, 52] (.two (.two (.join [(34, .bool)] [18, 19, 20, 21, 22, 23, 24, 25, 26, 27, 28, 29, 30, 31, 32, 33] false (.ord 65 [(0, 131070), (0, 131069), (3, 131064), (4, 131059), (8, 131047), (8, 131031), (8, 130999), (104, 130839), (136, 130679), (8, 130551), (8, 130039), (1032, 127991), (2568, 124407), (4104, 118775), (8472, 106215), (16392, 81911), (32776, 32759)] (.o 0 (.o 1 (.o 2 (.o 3 (.s 21 (.o 4 (.o 5 (.o 6 (.o 7 (.o 8 (.o 9 (.o 10 (.o 11 (.o 12 (.o 13 (.o 14 (.o 15 (.o 16 .done))))))))))))) (.o 4 (.o 5 (.o 6 (.o 7 (.o 8 (.o 9 (.o 10 (.o 11 (.o 12 (.o 13 (.o 14 (.o 15 (.o 16 .done)))))))))))))))))))) (.two .nil .nil)) (.two (.one (.join [] [37, 38, 39, 40, 41, 42, 43, 44, 45, 46, 47, 48, 49, 50, 51, 52] false (.ord 65 [(0, 262142), (0, 262141), (0, 262139), (0, 262135), (8, 262119), (0, 262111), (0, 262079), (64, 261951), (160, 261727), (256, 261375), (0, 261119), (0, 260095), (3072, 254975), (4096, 249855), (9187, 245756), (25571, 212479), (65535, 196587), (131071, 57343)] (.o 0 (.o 1 (.o 2 (.o 3 (.o 4 (.o 5 (.o 6 (.o 7 (.o 8 (.o 9 (.o 10 (.o 11 (.o 12 (.o 13 (.o 14 (.o 15 (.o 16 (.o 17 .done))))))))))))))))))))) .nil)))))) .nil)))))
theorem Cf65_insertion_ok : Cf65_insertion.Ok := mkC_ok mixed tysOk zerosOk eqsOk ⟨Sf38_sched_Sched_State_2, trivial⟩ trivial
theorem Ef65_insertion (x : (Sl × (Int × (Int × Unit)))) : evF Cf65_insertion Try.f65 53 (.pair .sl (.pair (.int .i64) (.pair (.int .i64) (.clo 38 .unit)))) (.tup .unit) Af65_insertion x = f65_insertion x.1 x.2.1 x.2.2.1 x.2.2.2 := by kernel_rfl
theorem Sf65_insertion : SoundF Try.prog 65 ⟨(.pair .sl (.pair (.int .i64) (.pair (.int .i64) (.clo 38 .unit)))), (.tup .unit), fun x => f65_insertion x.1 x.2.1 x.2.2.1 x.2.2.2⟩ :=
  soundF_of Cf65_insertion_ok Try.func65 (by kernel_rfl) (by kernel_rfl) Ef65_insertion
noncomputable def Cf66_heapSort : Ctx := mkC Try.prog tys zeros eqs [(77, ⟨(.pair .sl (.pair (.int .i64) (.pair (.int .i64) (.pair (.int .i64) (.clo 38 .unit))))), (.tup .unit), fun x => f77_siftDown x.1 x.2.1 x.2.2.1 x.2.2.2.1 x.2.2.2.2⟩)] []
/-- slices.heapSortCmpFuncpalaversched.timer -/
noncomputable def f66_heapSort (x0 : Sl) (x1 : Int) (x2 : Int) (x3 : Unit) : M Unit :=
  loopM (fun (s1 : Int) =>
  cnd (decide (s1 ≥ (0 : Int))) (
  bnd (f77_siftDown x0 s1 (IntKind.wrap .i64 (x2 - x1)) x1 x3) fun (r2 : Unit) =>
  ret (Sum.inl (IntKind.wrap .i64 (s1 - (1 : Int))))) (
  bnd (
  loopM (fun (s3 : Int) =>
  cnd (decide (s3 ≥ (0 : Int))) (
  bnd (
  bnd (ordM 66 10 (regionIn 10 Try.f66)) fun (o5 : List Nat) =>
  bnd (ix 3 x0 (IntKind.wrap .i64 (x1 + s3))) fun (p6 : Addr) =>
  bnd (ld (.agg (.pair (.int .i64) (.pair (.int .i64) (.int .i64)))) p6) fun (v7 : (Int × (Int × Int))) =>
  bnd (ix 3 x0 x1) fun (p8 : Addr) =>
  bnd (ld (.agg (.pair (.int .i64) (.pair (.int .i64) (.int .i64)))) p8) fun (v9 : (Int × (Int × Int))) =>
  bnd (ix 3 x0 x1) fun (p10 : Addr) =>
  bnd (wrs p10 0 [.int .i64 v7.1, .int .i64 v7.2.1, .int .i64 v7.2.2]) fun _ =>
  bnd (ret ()) fun _ =>
  bnd (ix 3 x0 (IntKind.wrap .i64 (x1 + s3))) fun (p11 : Addr) =>
  bnd (wrs p11 0 [.int .i64 v9.1, .int .i64 v9.2.1, .int .i64 v9.2.2]) fun _ =>
  bnd (ret ()) fun _ =>
  ret ()) fun (s4 : Unit) =>
  bnd (f77_siftDown x0 (0 : Int) s3 x1 x3) fun (r12 : Unit) =>
  ret (Sum.inl (IntKind.wrap .i64 (s3 - (1 : Int))))) (
  ret (Sum.inr ()))) (IntKind.wrap .i64 ((IntKind.wrap .i64 (x2 - x1)) - (1 : Int)))) fun r13 =>
  ret (Sum.inr r13))) (IntKind.wrap .i64 (Int.tdiv (IntKind.wrap .i64 ((IntKind.wrap .i64 (x2 - x1)) - (1 : Int))) (2 : Int)))
noncomputable def Af66_heapSort : Ann := (.two .nil (.two .nil (.two .nil (.two (.two .nil (.one (.loop [(11, (.int .i64))] [20, 21, 22, 23, 24, 25, 26, 27, 28, 29] (.two (.two .nil (.two .nil .nil)) (.two (.one .nil) .nil))))) (.two .nil (.one (.loop [(12, (.int .i64))] [32, 33, 34, 35, 36, 37, 38, 39, 40, 41, 42, 43, 44, 45, 46, 47, 48, 49, 50, 51, 52, 53, 54, 55, 56, 57, 58, 59] (.two (.two .nil (.two .nil .nil)) (.two (.one (.two (.join [] [36, 37, 38, 39, 40, 41, 42, 43, 44, 45, 46, 47, 48, 49, 50, 51, 52, 53] false (.ord 66 [(0, 1048574), (0, 1048573), (0, 1048571), (0, 1048567), (0, 1048559), (24, 1048519), (0, 1048511), (0, 1048447), (0, 1048319), (384, 1047679), (576, 1046975), (1024, 1045503), (0, 1044479), (0, 1040383), (12288, 1019903), (16384, 999423), (36803, 983036), (102339, 849919), (262143, 786395), (524287, 229375)] (.o 0 (.o 1 (.o 2 (.o 3 (.o 4 (.o 5 (.o 6 (.o 7 (.o 8 (.o 9 (.o 10 (.o 11 (.o 12 (.o 13 (.o 14 (.o 15 (.o 16 (.o 17 (.o 18 (.o 19 .done)))))))))))))))))))))) .nil)) .nil)))))))))
theorem Cf66_heapSort_ok : Cf66_heapSort.Ok := mkC_ok mixed tysOk zerosOk eqsOk ⟨Sf77_siftDown, trivial⟩ trivial
theorem Ef66_heapSort (x : (Sl × (Int × (Int × Unit)))) : evF Cf66_heapSort Try.f66 60 (.pair .sl (.pair (.int .i64) (.pair (.int .i64) (.clo 38 .unit)))) (.tup .unit) Af66_heapSort x = f66_heapSort x.1 x.2.1 x.2.2.1 x.2.2.2 := by kernel_rfl
theorem Sf66_heapSort : SoundF Try.prog 66 ⟨(.pair .sl (.pair (.int .i64) (.pair (.int .i64) (.clo 38 .unit)))), (.tup .unit), fun x => f66_heapSort x.1 x.2.1 x.2.2.1 x.2.2.2⟩ :=
  soundF_of Cf66_heapSort_ok Try.func66 (by kernel_rfl) (by kernel_rfl) Ef66_heapSort
noncomputable def Cf67_breakPatterns : Ctx := mkC Try.prog tys zeros eqs [(78, ⟨(.int .i64), (.int .u64), fun x => f78_slices_nextPowerOfTwo x⟩), (79, ⟨.ptr, (.int .u64), fun x => f79_slices_xorshift_Next x⟩)] []
/-- slices.breakPatternsCmpFuncpalaversched.timer -/
noncomputable def f67_breakPatterns (x0 : Sl) (x1 : Int) (x2 : Int) (x3 : Unit) : M Unit :=
  bnd (
  cnd (decide ((IntKind.wrap .i64 (x2 - x1)) ≥ (8 : Int))) (
  bnd (newC 111 [.int .u64 (0 : Int)]) fun (p2 : Addr) =>
  bnd (wrs p2 0 [.int .u64 (IntKind.wrap .u64 (IntKind.wrap .i64 (x2 - x1)))]) fun _ =>
  bnd (f78_slices_nextPowerOfTwo (IntKind.wrap .i64 (x2 - x1))) fun (r3 : Int) =>
  loopM (fun (s4 : Int) =>
  cnd (decide (s4 ≤ (IntKind.wrap .i64 ((IntKind.wrap .i64 (x1 + (IntKind.wrap .i64 ((IntKind.wrap .i64 (Int.tdiv (IntKind.wrap .i64 (x2 - x1)) (4 : Int))) * (2 : Int))))) + (1 : Int))))) (
  bnd (f79_slices_xorshift_Next (some p2)) fun (r5 : Int) =>
  bnd (
  cnd (decide ((IntKind.wrap .i64 (bAnd .u64 r5 (IntKind.wrap .u64 (r3 - (1 : Int))))) ≥ (IntKind.wrap .i64 (x2 - x1)))) (
  ret (IntKind.wrap .i64 ((IntKind.wrap .i64 (bAnd .u64 r5 (IntKind.wrap .u64 (r3 - (1 : Int))))) - (IntKind.wrap .i64 (x2 - x1))))) (
  ret (IntKind.wrap .i64 (bAnd .u64 r5 (IntKind.wrap .u64 (r3 - (1 : Int))))))) fun (s6 : Int) =>
  bnd (
  bnd (ordM 67 10 (regionIn 10 Try.f67)) fun (o8 : List Nat) =>
  bnd (ix 3 x0 (IntKind.wrap .i64 (x1 + s6))) fun (p9 : Addr) =>
  bnd (ld (.agg (.pair (.int .i64) (.pair (.int .i64) (.int .i64)))) p9) fun (v10 : (Int × (Int × Int))) =>
  bnd (ix 3 x0 s4) fun (p11 : Addr) =>
  bnd (ld (.agg (.pair (.int .i64) (.pair (.int .i64) (.int .i64)))) p11) fun (v12 : (Int × (Int × Int))) =>
  bnd (ix 3 x0 s4) fun (p13 : Addr) =>
  bnd (wrs p13 0 [.int .i64 v10.1, .int .i64 v10.2.1, .int .i64 v10.2.2]) fun _ =>
  bnd (ret ()) fun _ =>
  bnd (ix 3 x0 (IntKind.wrap .i64 (x1 + s6))) fun (p14 : Addr) =>
  bnd (wrs p14 0 [.int .i64 v12.1, .int .i64 v12.2.1, .int .i64 v12.2.2]) fun _ =>
  bnd (ret ()) fun _ =>
  ret ()) fun (s7 : Unit) =>
  ret (Sum.inl (IntKind.wrap .i64 (s4 + (1 : Int))))) (
  ret (Sum.inr ()))) (IntKind.wrap .i64 ((IntKind.wrap .i64 (x1 + (IntKind.wrap .i64 ((IntKind.wrap .i64 (Int.tdiv (IntKind.wrap .i64 (x2 - x1)) (4 : Int))) * (2 : Int))))) - (1 : Int)))) (
  ret ())) fun (s1 : Unit) =>
  ret ()
noncomputable def Af67_breakPatterns : Ann := (.two .nil (.two .nil (.join [] [9, 10, 11, 12, 18, 19, 20, 21, 22, 23, 24, 25, 26, 27, 28, 29, 30, 31, 32, 33, 34, 35, 36, 37, 38, 39, 40, 41, 42, 43, 44, 45, 46, 47, 48, 49, 50, 51, 52, 53, 54, 55, 56, 57, 58, 59, 60, 61, 62, 63, 64, 65, 66] false (.two (.two .nil (.two .nil (.two .nil (.one (.loop [(11, (.int .i64))] [12, 28, 29, 30, 31, 32, 33, 34, 35, 36, 37, 38, 39, 40, 41, 42, 43, 44, 45, 46, 47, 48, 49, 50, 51, 52, 53, 54, 55, 56, 57, 58, 59, 60, 61, 62, 63, 64, 65, 66] (.two (.two .nil (.two .nil .nil)) (.two (.one (.two .nil (.two (.two .nil (.join [(12, (.int .i64))] [46, 47, 48] false (.two .nil .nil))) (.join [] [49, 50, 51, 52, 53, 54, 55, 56, 57, 58, 59, 60, 61, 62, 63, 64, 65, 66] false (.ord 67 [(0, 1048574), (0, 1048573), (0, 1048571), (0, 1048567), (0, 1048559), (24, 1048519), (0, 1048511), (0, 1048447), (0, 1048319), (384, 1047679), (576, 1046975), (1024, 1045503), (0, 1044479), (0, 1040383), (12288, 1019903), (16384, 999423), (36803, 983036), (102339, 849919), (262143, 786395), (524287, 229375)] (.o 0 (.o 1 (.o 2 (.o 3 (.o 4 (.o 5 (.o 6 (.o 7 (.o 8 (.o 9 (.o 10 (.o 11 (.o 12 (.o 13 (.o 14 (.o 15 (.o 16 (.o 17 (.o 18 (.o 19 .done))))))))))))))))))))))))) .nil))))))) .nil))))
theorem Cf67_breakPatterns_ok : Cf67_breakPatterns.Ok := mkC_ok mixed tysOk zerosOk eqsOk ⟨Sf78_slices_nextPowerOfTwo, Sf79_slices_xorshift_Next, trivial⟩ trivial
theorem Ef67_breakPatterns (x : (Sl × (Int × (Int × Unit)))) : evF Cf67_breakPatterns Try.f67 67 (.pair .sl (.pair (.int .i64) (.pair (.int .i64) (.clo 38 .unit)))) (.tup .unit) Af67_breakPatterns x = f67_breakPatterns x.1 x.2.1 x.2.2.1 x.2.2.2 := by kernel_rfl
theorem Sf67_breakPatterns : SoundF Try.prog 67 ⟨(.pair .sl (.pair (.int .i64) (.pair (.int .i64) (.clo 38 .unit)))), (.tup .unit), fun x => f67_breakPatterns x.1 x.2.1 x.2.2.1 x.2.2.2⟩ :=
  soundF_of Cf67_breakPatterns_ok Try.func67 (by kernel_rfl) (by kernel_rfl) Ef67_breakPatterns
noncomputable def Cf68_choosePivot : Ctx := mkC Try.prog tys zeros eqs [(80, ⟨(.pair .sl (.pair (.int .i64) (.pair .ptr (.clo 38 .unit)))), (.int .i64), fun x => f80_medianAdj x.1 x.2.1 x.2.2.1 x.2.2.2⟩), (81, ⟨(.pair .sl (.pair (.int .i64) (.pair (.int .i64) (.pair (.int .i64) (.pair .ptr (.clo 38 .unit)))))), (.int .i64), fun x => f81_median x.1 x.2.1 x.2.2.1 x.2.2.2.1 x.2.2.2.2.1 x.2.2.2.2.2⟩)] []
/-- slices.choosePivotCmpFuncpalaversched.timer -/
noncomputable def f68_choosePivot (x0 : Sl) (x1 : Int) (x2 : Int) (x3 : Unit) : M (Int × Int) :=
  bnd (newC 3 [.int .i64 (0 : Int)]) fun (p1 : Addr) =>
  bnd (
  cnd (decide ((IntKind.wrap .i64 (x2 - x1)) ≥ (8 : Int))) (
  bnd (
  cnd (decide ((IntKind.wrap .i64 (x2 - x1)) ≥ (50 : Int))) (
  bnd (f80_medianAdj x0 (IntKind.wrap .i64 (x1 + (IntKind.wrap .i64 ((IntKind.wrap .i64 (Int.tdiv (IntKind.wrap .i64 (x2 - x1)) (4 : Int))) * (1 : Int))))) (some p1) x3) fun (r4 : Int) =>
  bnd (f80_medianAdj x0 (IntKind.wrap .i64 (x1 + (IntKind.wrap .i64 ((IntKind.wrap .i64 (Int.tdiv (IntKind.wrap .i64 (x2 - x1)) (4 : Int))) * (2 : Int))))) (some p1) x3) fun (r5 : Int) =>
  bnd (f80_medianAdj x0 (IntKind.wrap .i64 (x1 + (IntKind.wrap .i64 ((IntKind.wrap .i64 (Int.tdiv (IntKind.wrap .i64 (x2 - x1)) (4 : Int))) * (3 : Int))))) (some p1) x3) fun (r6 : Int) =>
  ret (r4, r5, r6)) (
  ret ((IntKind.wrap .i64 (x1 + (IntKind.wrap .i64 ((IntKind.wrap .i64 (Int.tdiv (IntKind.wrap .i64 (x2 - x1)) (4 : Int))) * (1 : Int))))), (IntKind.wrap .i64 (x1 + (IntKind.wrap .i64 ((IntKind.wrap .i64 (Int.tdiv (IntKind.wrap .i64 (x2 - x1)) (4 : Int))) * (2 : Int))))), (IntKind.wrap .i64 (x1 + (IntKind.wrap .i64 ((IntKind.wrap .i64 (Int.tdiv (IntKind.wrap .i64 (x2 - x1)) (4 : Int))) * (3 : Int)))))))) fun (s3 : (Int × (Int × Int))) =>
  bnd (f81_median x0 s3.1 s3.2.1 s3.2.2 (some p1) x3) fun (r7 : Int) =>
  ret r7) (
  ret (IntKind.wrap .i64 (x1 + (IntKind.wrap .i64 ((IntKind.wrap .i64 (Int.tdiv (IntKind.wrap .i64 (x2 - x1)) (4 : Int))) * (2 : Int))))))) fun (s2 : Int) =>
  bnd (ld (.int .i64) p1) fun (v8 : Int) =>
  cnd (v8 == (0 : Int)) (
  ret (s2, (1 : Int))) (
  cnd (v8 == (12 : Int)) (
  ret (s2, (2 : Int))) (
  ret (s2, (0 : Int))))
noncomputable def Af68_choosePivot : Ann := (.two .nil (.two .nil (.two .nil (.two .nil (.two .nil (.two .nil (.two (.two .nil (.join [(13, (.int .i64))] [12, 14, 35, 36, 37, 38, 39, 40, 41, 42, 43, 44, 45, 46, 47, 48, 49, 50, 51, 52, 53, 54] false (.two (.two (.two .nil (.join [(12, (.int .i64)), (13, (.int .i64)), (14, (.int .i64))] [37, 38, 39, 40, 41, 42, 43, 44, 45, 46, 47, 48] false (.two (.two .nil (.two .nil .nil)) .nil))) .nil) .nil))) (.two .nil (.one (.two .nil (.two (.two .nil .nil) (.two .nil (.two (.two .nil .nil) (.two .nil .nil))))))))))))))
theorem Cf68_choosePivot_ok : Cf68_choosePivot.Ok := mkC_ok mixed tysOk zerosOk eqsOk ⟨Sf80_medianAdj, Sf81_median, trivial⟩ trivial
theorem Ef68_choosePivot (x : (Sl × (Int × (Int × Unit)))) : evF Cf68_choosePivot Try.f68 63 (.pair .sl (.pair (.int .i64) (.pair (.int .i64) (.clo 38 .unit)))) (.tup (.pair (.int .i64) (.int .i64))) Af68_choosePivot x = f68_choosePivot x.1 x.2.1 x.2.2.1 x.2.2.2 := by kernel_rfl
theorem Sf68_choosePivot : SoundF Try.prog 68 ⟨(.pair .sl (.pair (.int .i64) (.pair (.int .i64) (.clo 38 .unit)))), (.tup (.pair (.int .i64) (.int .i64))), fun x => f68_choosePivot x.1 x.2.1 x.2.2.1 x.2.2.2⟩ :=
  soundF_of Cf68_choosePivot_ok Try.func68 (by kernel_rfl) (by kernel_rfl) Ef68_choosePivot
noncomputable def Cf69_reverseRange : Ctx := mkC Try.prog tys zeros eqs [] []
/-- slices.reverseRangeCmpFuncpalaversched.timer -/
noncomputable def f69_reverseRange (x0 : Sl) (x1 : Int) (x2 : Int) (x3 : Unit) : M Unit :=
  loopM (fun (s1 : (Int × Int)) =>
  cnd (decide (s1.1 < s1.2)) (
  bnd (
  bnd (ordM 69 3 (regionIn 3 Try.f69)) fun (o3 : List Nat) =>
  bnd (ix 3 x0 s1.2) fun (p4 : Addr) =>
  bnd (ld (.agg (.pair (.int .i64) (.pair (.int .i64) (.int .i64)))) p4) fun (v5 : (Int × (Int × Int))) =>
  bnd (ix 3 x0 s1.1) fun (p6 : Addr) =>
  bnd (ld (.agg (.pair (.int .i64) (.pair (.int .i64) (.int .i64)))) p6) fun (v7 : (Int × (Int × Int))) =>
  bnd (ix 3 x0 s1.1) fun (p8 : Addr) =>
  bnd (wrs p8 0 [.int .i64 v5.1, .int .i64 v5.2.1, .int .i64 v5.2.2]) fun _ =>
  bnd (ret ()) fun _ =>
  bnd (ix 3 x0 s1.2) fun (p9 : Addr) =>
  bnd (wrs p9 0 [.int .i64 v7.1, .int .i64 v7.2.1, .int .i64 v7.2.2]) fun _ =>
  bnd (ret ()) fun _ =>
  ret ()) fun (s2 : Unit) =>
  ret (Sum.inl ((IntKind.wrap .i64 (s1.1 + (1 : Int))), (IntKind.wrap .i64 (s1.2 - (1 : Int)))))) (
  ret (Sum.inr ()))) (x1, (IntKind.wrap .i64 (x2 - (1 : Int))))
noncomputable def Af69_reverseRange : Ann := (.two .nil (.two .nil (.one (.loop [(8, (.int .i64)), (9, (.int .i64))] [13, 14, 15, 16, 17, 18, 19, 20, 21, 22, 23, 24, 25, 26, 27, 28, 29, 30, 31, 32, 33] (.two (.two .nil (.two .nil .nil)) (.one (.two (.join [] [16, 17, 18, 19, 20, 21, 22, 23, 24, 25, 26, 27, 28, 29] false (.ord 69 [(0, 65534), (0, 65533), (0, 65531), (0, 65527), (0, 65519), (0, 65503), (48, 65423), (64, 65343), (0, 65279), (0, 65023), (768, 63743), (1024, 62463), (2291, 61436), (6387, 53119), (16383, 49139), (32767, 14335)] (.o 0 (.o 1 (.o 2 (.o 3 (.o 4 (.o 5 (.o 6 (.o 7 (.o 8 (.o 9 (.o 10 (.o 11 (.o 12 (.o 13 (.o 14 (.o 15 .done)))))))))))))))))) (.two .nil .nil))))))))
theorem Cf69_reverseRange_ok : Cf69_reverseRange.Ok := mkC_ok mixed tysOk zerosOk eqsOk trivial trivial
theorem Ef69_reverseRange (x : (Sl × (Int × (Int × Unit)))) : evF Cf69_reverseRange Try.f69 34 (.pair .sl (.pair (.int .i64) (.pair (.int .i64) (.clo 38 .unit)))) (.tup .unit) Af69_reverseRange x = f69_reverseRange x.1 x.2.1 x.2.2.1 x.2.2.2 := by kernel_rfl
theorem Sf69_reverseRange : SoundF Try.prog 69 ⟨(.pair .sl (.pair (.int .i64) (.pair (.int .i64) (.clo 38 .unit)))), (.tup .unit), fun x => f69_reverseRange x.1 x.2.1 x.2.2.1 x.2.2.2⟩ :=
  soundF_of Cf69_reverseRange_ok Try.func69 (by kernel_rfl) (by kernel_rfl) Ef69_reverseRange
noncomputable def Cf70_partialInsertion : Ctx := mkC Try.prog tys zeros eqs [(38, ⟨(.pair (.agg (.pair (.int .i64) (.pair (.int .i64) (.int .i64)))) (.agg (.pair (.int .i64) (.pair (.int .i64) (.int .i64))))), (.int .i64), fun x => f38_sched_Sched_State_2 x.1 x.2⟩)] []
/-- slices.partialInsertionSortCmpFuncpalaversched.timer -/
noncomputable def f70_partialInsertion (x0 : Sl) (x1 : Int) (x2 : Int) (x3 : Unit) : M Bool :=
  loopM (fun (s1 : (Int × Int)) =>
  cnd (decide (s1.2 < (5 : Int))) (
  loopM (fun (s2 : Int) =>
  bnd (
  bnd (ordM 70 5 (regionIn 5 Try.f70)) fun (o4 : List Nat) =>
  cnd (decide (s2 < x2)) (
  bnd (ix 3 x0 s2) fun (p5 : Addr) =>
  bnd (ld (.agg (.pair (.int .i64) (.pair (.int .i64) (.int .i64)))) p5) fun (v6 : (Int × (Int × Int))) =>
  bnd (ix 3 x0 (IntKind.wrap .i64 (s2 - (1 : Int)))) fun (p7 : Addr) =>
  bnd (ld (.agg (.pair (.int .i64) (.pair (.int .i64) (.int .i64)))) p7) fun (v8 : (Int × (Int × Int))) =>
  bnd (f38_sched_Sched_State_2 v6 v8) fun (r9 : Int) =>
  bnd (ret ()) fun _ =>
  ret (!(decide (r9 < (0 : Int))))) (
  bnd (ret ()) fun _ =>
  ret false)) fun (s3 : Bool) =>
  cnd s3 (
  ret (Sum.inl (IntKind.wrap .i64 (s2 + (1 : Int))))) (
  bnd (
  cnd (s2 == x2) (
  ret (Sum.inr true)) (
  cnd (decide ((IntKind.wrap .i64 (x2 - x1)) < (50 : Int))) (
  ret (Sum.inr false)) (
  bnd (
  bnd (ordM 70 11 (regionIn 11 Try.f70)) fun (o11 : List Nat) =>
  bnd (ix 3 x0 (IntKind.wrap .i64 (s2 - (1 : Int)))) fun (p12 : Addr) =>
  bnd (ld (.agg (.pair (.int .i64) (.pair (.int .i64) (.int .i64)))) p12) fun (v13 : (Int × (Int × Int))) =>
  bnd (ix 3 x0 s2) fun (p14 : Addr) =>
  bnd (ld (.agg (.pair (.int .i64) (.pair (.int .i64) (.int .i64)))) p14) fun (v15 : (Int × (Int × Int))) =>
  bnd (ix 3 x0 s2) fun (p16 : Addr) =>
  bnd (wrs p16 0 [.int .i64 v13.1, .int .i64 v13.2.1, .int .i64 v13.2.2]) fun _ =>
  bnd (ret ()) fun _ =>
  bnd (ix 3 x0 (IntKind.wrap .i64 (s2 - (1 : Int)))) fun (p17 : Addr) =>
  bnd (wrs p17 0 [.int .i64 v15.1, .int .i64 v15.2.1, .int .i64 v15.2.2]) fun _ =>
  bnd (ret ()) fun _ =>
  ret ()) fun (s10 : Unit) =>
  bnd (
  cnd (decide ((IntKind.wrap .i64 (s2 - x1)) ≥ (2 : Int))) (
  bnd (
  loopM (fun (s20 : Int) =>
  cnd (decide (s20 ≥ (1 : Int))) (
  bnd (
  bnd (ordM 70 16 (regionIn 16 Try.f70)) fun (o22 : List Nat) =>
  bnd (ix 3 x0 s20) fun (p23 : Addr) =>
  bnd (ld (.agg (.pair (.int .i64) (.pair (.int .i64) (.int .i64)))) p23) fun (v24 : (Int × (Int × Int))) =>
  bnd (ix 3 x0 (IntKind.wrap .i64 (s20 - (1 : Int)))) fun (p25 : Addr) =>
  bnd (ld (.agg (.pair (.int .i64) (.pair (.int .i64) (.int .i64)))) p25) fun (v26 : (Int × (Int × Int))) =>
  bnd (f38_sched_Sched_State_2 v24 v26) fun (r27 : Int) =>
  bnd (ret ()) fun _ =>
  ret (!(decide (r27 < (0 : Int))))) fun (s21 : Bool) =>
  cnd s21 (
  ret (Sum.inr ())) (
  bnd (
  bnd (ordM 70 17 (regionIn 17 Try.f70)) fun (o29 : List Nat) =>
  bnd (ix 3 x0 (IntKind.wrap .i64 (s20 - (1 : Int)))) fun (p30 : Addr) =>
  bnd (ld (.agg (.pair (.int .i64) (.pair (.int .i64) (.int .i64)))) p30) fun (v31 : (Int × (Int × Int))) =>
  bnd (ix 3 x0 s20) fun (p32 : Addr) =>
  bnd (ld (.agg (.pair (.int .i64) (.pair (.int .i64) (.int .i64)))) p32) fun (v33 : (Int × (Int × Int))) =>
  bnd (ix 3 x0 s20) fun (p34 : Addr) =>
  bnd (wrs p34 0 [.int .i64 v31.1, .int .i64 v31.2.1, .int .i64 v31.2.2]) fun _ =>
  bnd (ret ()) fun _ =>
  bnd (ix 3 x0 (IntKind.wrap .i64 (s20 - (1 : Int)))) fun (p35 : Addr) =>
  bnd (wrs p35 0 [.int .i64 v33.1, .int .i64 v33.2.1, .int .i64 v33.2.2]) fun _ =>
  bnd (ret ()) fun _ =>
  ret ()) fun (s28 : Unit) =>
  ret (Sum.inl (IntKind.wrap .i64 (s20 - (1 : Int)))))) (
  ret (Sum.inr ()))) (IntKind.wrap .i64 (s2 - (1 : Int)))) fun (s19 : Unit) =>
  ret ()) (
  ret ())) fun (s18 : Unit) =>
  bnd (
  cnd (decide ((IntKind.wrap .i64 (x2 - s2)) ≥ (2 : Int))) (
  bnd (
  loopM (fun (s38 : Int) =>
  cnd (decide (s38 < x2)) (
  bnd (
  bnd (ordM 70 22 (regionIn 22 Try.f70)) fun (o40 : List Nat) =>
  bnd (ix 3 x0 s38) fun (p41 : Addr) =>
  bnd (ld (.agg (.pair (.int .i64) (.pair (.int .i64) (.int .i64)))) p41) fun (v42 : (Int × (Int × Int))) =>
  bnd (ix 3 x0 (IntKind.wrap .i64 (s38 - (1 : Int)))) fun (p43 : Addr) =>
  bnd (ld (.agg (.pair (.int .i64) (.pair (.int .i64) (.int .i64)))) p43) fun (v44 : (Int × (Int × Int))) =>
  bnd (f38_sched_Sched_State_2 v42 v44) fun (r45 : Int) =>
  bnd (ret ()) fun _ =>
  ret (!(decide (r45 < (0 : Int))))) fun (s39 : Bool) =>
  cnd s39 (
  ret (Sum.inr ())) (
  bnd (
  bnd (ordM 70 23 (regionIn 23 Try.f70)) fun (o47 : List Nat) =>
  bnd (ix 3 x0 (IntKind.wrap .i64 (s38 - (1 : Int)))) fun (p48 : Addr) =>
  bnd (ld (.agg (.pair (.int .i64) (.pair (.int .i64) (.int .i64)))) p48) fun (v49 : (Int × (Int × Int))) =>
  bnd (ix 3 x0 s38) fun (p50 : Addr) =>
  bnd (ld (.agg (.pair (.int .i64) (.pair (.int .i64) (.int .i64)))) p50) fun (v51 : (Int × (Int × Int))) =>
  bnd (ix 3 x0 s38) fun (p52 : Addr) =>
  bnd (wrs p52 0 [.int .i64 v49.1, .int .i64 v49.2.1, .int .i64 v49.2.2]) fun _ =>
  bnd (ret ()) fun _ =>
  bnd (ix 3 x0 (IntKind.wrap .i64 (s38 - (1 : Int)))) fun (p53 : Addr) =>
  bnd (wrs p53 0 [.int .i64 v51.1, .int .i64 v51.2.1, .int .i64 v51.2.2]) fun _ =>
  bnd (ret ()) fun _ =>
  ret ()) fun (s46 : Unit) =>
  ret (Sum.inl (IntKind.wrap .i64 (s38 + (1 : Int)))))) (
  ret (Sum.inr ()))) (IntKind.wrap .i64 (s2 + (1 : Int)))) fun (s37 : Unit) =>
  ret ()) (
  ret ())) fun (s36 : Unit) =>
  ret (Sum.inl (s2, (IntKind.wrap .i64 (s1.2 + (1 : Int)))))))) fun r54 =>
  ret (Sum.inr r54))) s1.1) (
  ret (Sum.inr false))) ((IntKind.wrap .i64 (x1 + (1 : Int))), (0 : Int))
noncomputable def Af70_partialInsertion : Ann := (.two .nil (.two .nil (.two (.two .nil (.one (.loop [(9, (.int .i64)), (10, (.int .i64))] [8, 11, 12, 15, 16, 17, 18, 19, 20, 21, 22, 23, 24, 25, 26, 27, 28, 29, 30, 31, 32, 33, 34, 35, 36, 37, 38, 39, 40, 41, 42, 43, 44, 45, 46, 47, 48, 49, 50, 51, 52, 53, 54, 55, 56, 57, 58, 59, 60, 61, 62, 63, 64, 65, 66, 67, 68, 69, 70, 71, 72, 73, 74, 75, 76, 77, 78, 79, 80, 81, 82, 83, 84, 85, 86, 87, 88, 89, 90, 91, 92, 93, 94, 95, 96, 97, 98, 99, 100, 101, 102, 103, 104, 105, 106, 107, 108, 109, 110, 111, 112, 113, 114, 115, 116, 117, 118, 119, 120, 121, 122, 123, 124, 125, 126, 127, 128, 129, 130, 131, 132, 133, 134, 135, 136, 137, 138, 139, 140] (.two (.two .nil (.two .nil .nil)) (.two (.one (.two (.one (.loop [(9, (.int .i64))] [19, 20, 21, 22, 23, 24, 25, 26, 27, 28, 29, 30, 31, 32, 33, 34, 35, 36, 37, 38] (.two (.two (.join [(36, .bool)] [19, 20, 21, 22, 23, 24, 25, 26, 27, 28, 29, 30, 31, 32, 33, 34, 35] false (.ord 70 [(0, 262142), (0, 262141), (3, 262136), (4, 262131), (8, 262119), (8, 262103), (8, 262071), (104, 261911), (136, 261751), (8, 261623), (8, 261111), (1032, 259063), (2568, 255479), (4104, 249847), (8472, 237287), (16392, 212983), (32776, 163831), (65544, 65527)] (.o 0 (.o 1 (.o 2 (.o 3 (.s 22 (.o 4 (.o 5 (.o 6 (.o 7 (.o 8 (.o 9 (.o 10 (.o 11 (.o 12 (.o 13 (.o 14 (.o 15 (.o 16 (.o 17 .done)))))))))))))) (.o 4 (.o 5 (.o 6 (.o 7 (.o 8 (.o 9 (.o 10 (.o 11 (.o 12 (.o 13 (.o 14 (.o 15 (.o 16 (.o 17 .done))))))))))))))))))))) (.two .nil .nil)) (.one .nil)))) (.two (.two .nil (.two (.two .nil .nil) .nil)) (.two (.two .nil (.two (.two .nil .nil) .nil)) (.two (.join [] [46, 47, 48, 49, 50, 51, 52, 53, 54, 55, 56, 57, 58, 59, 60, 61] false (.ord 70 [(0, 262142), (0, 262141), (0, 262139), (0, 262135), (8, 262119), (0, 262111), (0, 262079), (64, 261951), (160, 261727), (256, 261375), (0, 261119), (0, 260095), (3072, 254975), (4096, 249855), (9187, 245756), (25571, 212479), (65535, 196587), (131071, 57343)] (.o 0 (.o 1 (.o 2 (.o 3 (.o 4 (.o 5 (.o 6 (.o 7 (.o 8 (.o 9 (.o 10 (.o 11 (.o 12 (.o 13 (.o 14 (.o 15 (.o 16 (.o 17 .done)))))))))))))))))))) (.two (.two .nil (.join [] [11, 66, 67, 68, 69, 70, 71, 72, 73, 74, 75, 76, 77, 78, 79, 80, 81, 82, 83, 84, 85, 86, 87, 88, 89, 90, 91, 92, 93, 94, 95, 96, 97, 98, 99, 100] false (.two (.two .nil (.join [] [11, 68, 69, 70, 71, 72, 73, 74, 75, 76, 77, 78, 79, 80, 81, 82, 83, 84, 85, 86, 87, 88, 89, 90, 91, 92, 93, 94, 95, 96, 97, 98, 99, 100] false (.one (.loop [(11, (.int .i64))] [68, 69, 70, 71, 72, 73, 74, 75, 76, 77, 78, 79, 80, 81, 82, 83, 84, 85, 86, 87, 88, 89, 90, 91, 92, 93, 94, 95, 96, 97, 98, 99, 100] (.two (.two .nil (.two .nil .nil)) (.two (.one (.two (.two (.join [(84, .bool)] [72, 73, 74, 75, 76, 77, 78, 79, 80, 81, 82, 83] false (.ord 70 [(0, 8190), (0, 8189), (0, 8187), (6, 8177), (8, 8167), (0, 8159), (0, 8127), (64, 7999), (160, 7775), (256, 7423), (529, 6638), (1024, 5119), (2048, 2047)] (.o 0 (.o 1 (.o 2 (.o 3 (.o 4 (.o 5 (.o 6 (.o 7 (.o 8 (.o 9 (.o 10 (.o 11 (.o 12 .done))))))))))))))) (.two .nil .nil)) (.join [] [85, 86, 87, 88, 89, 90, 91, 92, 93, 94, 95, 96, 97, 98, 99, 100] false (.ord 70 [(0, 262142), (0, 262141), (0, 262139), (0, 262135), (8, 262119), (0, 262111), (0, 262079), (64, 261951), (160, 261727), (256, 261375), (0, 261119), (0, 260095), (3072, 254975), (4096, 249855), (9187, 245756), (25571, 212479), (65535, 196587), (131071, 57343)] (.o 0 (.o 1 (.o 2 (.o 3 (.o 4 (.o 5 (.o 6 (.o 7 (.o 8 (.o 9 (.o 10 (.o 11 (.o 12 (.o 13 (.o 14 (.o 15 (.o 16 (.o 17 .done)))))))))))))))))))))) .nil)))))) .nil))) (.two .nil (.join [] [12, 105, 106, 107, 108, 109, 110, 111, 112, 113, 114, 115, 116, 117, 118, 119, 120, 121, 122, 123, 124, 125, 126, 127, 128, 129, 130, 131, 132, 133, 134, 135, 136, 137, 138, 139, 140] false (.two (.two .nil (.join [] [12, 107, 108, 109, 110, 111, 112, 113, 114, 115, 116, 117, 118, 119, 120, 121, 122, 123, 124, 125, 126, 127, 128, 129, 130, 131, 132, 133, 134, 135, 136, 137, 138, 139, 140] false (.one (.loop [(12, (.int .i64))] [107, 108, 109, 110, 111, 112, 113, 114, 115, 116, 117, 118, 119, 120, 121, 122, 123, 124, 125, 126, 127, 128, 129, 130, 131, 132, 133, 134, 135, 136, 137, 138, 139, 140] (.two (.two .nil (.two .nil .nil)) (.two (.one (.two (.two (.join [(124, .bool)] [112, 113, 114, 115, 116, 117, 118, 119, 120, 121, 122, 123] false (.ord 70 [(0, 8190), (0, 8189), (0, 8187), (6, 8177), (8, 8167), (0, 8159), (0, 8127), (64, 7999), (160, 7775), (256, 7423), (529, 6638), (1024, 5119), (2048, 2047)] (.o 0 (.o 1 (.o 2 (.o 3 (.o 4 (.o 5 (.o 6 (.o 7 (.o 8 (.o 9 (.o 10 (.o 11 (.o 12 .done))))))))))))))) (.two .nil .nil)) (.join [] [125, 126, 127, 128, 129, 130, 131, 132, 133, 134, 135, 136, 137, 138, 139, 140] false (.ord 70 [(0, 262142), (0, 262141), (0, 262139), (0, 262135), (8, 262119), (0, 262111), (0, 262079), (64, 261951), (160, 261727), (256, 261375), (0, 261119), (0, 260095), (3072, 254975), (4096, 249855), (9187, 245756), (25571, 212479), (65535, 196587), (131071, 57343)] (.o 0 (.o 1 (.o 2 (.o 3 (.o 4 (.o 5 (.o 6 (.o 7 (.o 8 (.o 9 (.o 10 (.o 11 (.o 12 (.o 13 (.o 14 (.o 15 (.o 16 (.o 17 .done)))))))))))))))))))))) .nil)))))) .nil))))))))) .nil))))) (.two .nil .nil))))
theorem Cf70_partialInsertion_ok : Cf70_partialInsertion.Ok := mkC_ok mixed tysOk zerosOk eqsOk ⟨Sf38_sched_Sched_State_2, trivial⟩ trivial
theorem Ef70_partialInsertion (x : (Sl × (Int × (Int × Unit)))) : evF Cf70_partialInsertion Try.f70 141 (.pair .sl (.pair (.int .i64) (.pair (.int .i64) (.clo 38 .unit)))) .bool Af70_partialInsertion x = f70_partialInsertion x.1 x.2.1 x.2.2.1 x.2.2.2 := by kernel_rfl
theorem Sf70_partialInsertion : SoundF Try.prog 70 ⟨(.pair .sl (.pair (.int .i64) (.pair (.int .i64) (.clo 38 .unit)))), .bool, fun x => f70_partialInsertion x.1 x.2.1 x.2.2.1 x.2.2.2⟩ :=
  soundF_of Cf70_partialInsertion_ok Try.func70 (by kernel_rfl) (by kernel_rfl) Ef70_partialInsertion
noncomputable def Cf71_partitionEqual : Ctx := mkC Try.prog tys zeros eqs [(38, ⟨(.pair (.agg (.pair (.int .i64) (.pair (.int .i64) (.int .i64)))) (.agg (.pair (.int .i64) (.pair (.int .i64) (.int .i64))))), (.int .i64), fun x => f38_sched_Sched_State_2 x.1 x.2⟩)] []
/-- slices.partitionEqualCmpFuncpalaversched.timer -/
noncomputable def f71_partitionEqual (x0 : Sl) (x1 : Int) (x2 : Int) (x3 : Int) (x4 : Unit) : M Int :=
  bnd (
  bnd (ordM 71 1 (regionIn 1 Try.f71)) fun (o2 : List Nat) =>
  bnd (ix 3 x0 x3) fun (p3 : Addr) =>
  bnd (ld (.agg (.pair (.int .i64) (.pair (.int .i64) (.int .i64)))) p3) fun (v4 : (Int × (Int × Int))) =>
  bnd (ix 3 x0 x1) fun (p5 : Addr) =>
  bnd (ld (.agg (.pair (.int .i64) (.pair (.int .i64) (.int .i64)))) p5) fun (v6 : (Int × (Int × Int))) =>
  bnd (ix 3 x0 x1) fun (p7 : Addr) =>
  bnd (wrs p7 0 [.int .i64 v4.1, .int .i64 v4.2.1, .int .i64 v4.2.2]) fun _ =>
  bnd (ret ()) fun _ =>
  bnd (ix 3 x0 x3) fun (p8 : Addr) =>
  bnd (wrs p8 0 [.int .i64 v6.1, .int .i64 v6.2.1, .int .i64 v6.2.2]) fun _ =>
  bnd (ret ()) fun _ =>
  ret ()) fun (s1 : Unit) =>
  loopM (fun (s9 : (Int × Int)) =>
  loopM (fun (s10 : Int) =>
  bnd (
  bnd (ordM 71 3 (regionIn 3 Try.f71)) fun (o12 : List Nat) =>
  cnd (decide (s10 ≤ s9.2)) (
  bnd (ix 3 x0 x1) fun (p13 : Addr) =>
  bnd (ld (.agg (.pair (.int .i64) (.pair (.int .i64) (.int .i64)))) p13) fun (v14 : (Int × (Int × Int))) =>
  bnd (ix 3 x0 s10) fun (p15 : Addr) =>
  bnd (ld (.agg (.pair (.int .i64) (.pair (.int .i64) (.int .i64)))) p15) fun (v16 : (Int × (Int × Int))) =>
  bnd (f38_sched_Sched_State_2 v14 v16) fun (r17 : Int) =>
  bnd (ret ()) fun _ =>
  ret (!(decide (r17 < (0 : Int))))) (
  bnd (ret ()) fun _ =>
  ret false)) fun (s11 : Bool) =>
  cnd s11 (
  ret (Sum.inl (IntKind.wrap .i64 (s10 + (1 : Int))))) (
  bnd (
  loopM (fun (s18 : Int) =>
  bnd (
  bnd (ordM 71 5 (regionIn 5 Try.f71)) fun (o20 : List Nat) =>
  cnd (decide (s10 ≤ s18)) (
  bnd (ix 3 x0 x1) fun (p21 : Addr) =>
  bnd (ld (.agg (.pair (.int .i64) (.pair (.int .i64) (.int .i64)))) p21) fun (v22 : (Int × (Int × Int))) =>
  bnd (ix 3 x0 s18) fun (p23 : Addr) =>
  bnd (ld (.agg (.pair (.int .i64) (.pair (.int .i64) (.int .i64)))) p23) fun (v24 : (Int × (Int × Int))) =>
  bnd (f38_sched_Sched_State_2 v22 v24) fun (r25 : Int) =>
  bnd (ret ()) fun _ =>
  ret (decide (r25 < (0 : Int)))) (
  bnd (ret ()) fun _ =>
  ret false)) fun (s19 : Bool) =>
  cnd s19 (
  ret (Sum.inl (IntKind.wrap .i64 (s18 - (1 : Int))))) (
  bnd (
  cnd (decide (s10 > s18)) (
  ret (Sum.inr s10)) (
  bnd (
  bnd (ordM 71 8 (regionIn 8 Try.f71)) fun (o27 : List Nat) =>
  bnd (ix 3 x0 s18) fun (p28 : Addr) =>
  bnd (ld (.agg (.pair (.int .i64) (.pair (.int .i64) (.int .i64)))) p28) fun (v29 : (Int × (Int × Int))) =>
  bnd (ix 3 x0 s10) fun (p30 : Addr) =>
  bnd (ld (.agg (.pair (.int .i64) (.pair (.int .i64) (.int .i64)))) p30) fun (v31 : (Int × (Int × Int))) =>
  bnd (ix 3 x0 s10) fun (p32 : Addr) =>
  bnd (wrs p32 0 [.int .i64 v29.1, .int .i64 v29.2.1, .int .i64 v29.2.2]) fun _ =>
  bnd (ret ()) fun _ =>
  bnd (ix 3 x0 s18) fun (p33 : Addr) =>
  bnd (wrs p33 0 [.int .i64 v31.1, .int .i64 v31.2.1, .int .i64 v31.2.2]) fun _ =>
  bnd (ret ()) fun _ =>
  ret ()) fun (s26 : Unit) =>
  ret (Sum.inl ((IntKind.wrap .i64 (s10 + (1 : Int))), (IntKind.wrap .i64 (s18 - (1 : Int))))))) fun r34 =>
  ret (Sum.inr r34))) s9.2) fun r35 =>
  ret (Sum.inr r35))) s9.1) ((IntKind.wrap .i64 (x1 + (1 : Int))), (IntKind.wrap .i64 (x2 - (1 : Int))))
noncomputable def Af71_partitionEqual : Ann := (.two .nil (.two (.join [] [13, 14, 15, 16, 17, 18, 19, 20, 21, 22, 23, 24, 25, 26] false (.ord 71 [(0, 65534), (0, 65533), (0, 65531), (0, 65527), (0, 65519), (0, 65503), (48, 65423), (64, 65343), (0, 65279), (0, 65023), (768, 63743), (1024, 62463), (2291, 61436), (6387, 53119), (16383, 49139), (32767, 14335)] (.o 0 (.o 1 (.o 2 (.o 3 (.o 4 (.o 5 (.o 6 (.o 7 (.o 8 (.o 9 (.o 10 (.o 11 (.o 12 (.o 13 (.o 14 (.o 15 .done)))))))))))))))))) (.two .nil (.two (.one (.loop [(11, (.int .i64)), (12, (.int .i64))] [31, 32, 33, 34, 35, 36, 37, 38, 39, 40, 41, 42, 43, 44, 45, 46, 47, 48, 49, 50, 51, 52, 53, 54, 55, 56, 57, 58, 59, 60, 61, 62, 63, 64, 65, 66, 67, 68, 69, 70, 71, 72, 73, 74, 75, 76, 77, 78, 79, 80, 81, 82, 83, 84, 85, 86, 87, 88] (.one (.two (.one (.loop [(11, (.int .i64))] [31, 32, 33, 34, 35, 36, 37, 38, 39, 40, 41, 42, 43, 44, 45, 46, 47, 48, 49] (.two (.two (.join [(47, .bool)] [31, 32, 33, 34, 35, 36, 37, 38, 39, 40, 41, 42, 43, 44, 45, 46] false (.ord 71 [(0, 131070), (0, 131069), (3, 131064), (4, 131059), (8, 131047), (8, 131031), (8, 130999), (104, 130839), (136, 130679), (8, 130551), (8, 130039), (1544, 127479), (2056, 124919), (4376, 118503), (8200, 106487), (16392, 81911), (32776, 32759)] (.o 0 (.o 1 (.o 2 (.o 3 (.s 34 (.o 4 (.o 5 (.o 6 (.o 7 (.o 8 (.o 9 (.o 10 (.o 11 (.o 12 (.o 13 (.o 14 (.o 15 (.o 16 .done))))))))))))) (.o 4 (.o 5 (.o 6 (.o 7 (.o 8 (.o 9 (.o 10 (.o 11 (.o 12 (.o 13 (.o 14 (.o 15 (.o 16 .done)))))))))))))))))))) (.two .nil .nil)) (.one .nil)))) (.two (.one (.loop [(12, (.int .i64))] [50, 51, 52, 53, 54, 55, 56, 57, 58, 59, 60, 61, 62, 63, 64, 65, 66, 67] (.two (.two (.join [(65, .bool)] [50, 51, 52, 53, 54, 55, 56, 57, 58, 59, 60, 61, 62, 63, 64] false (.ord 71 [(0, 65534), (0, 65533), (3, 65528), (4, 65523), (8, 65511), (8, 65495), (8, 65463), (104, 65303), (136, 65143), (8, 65015), (8, 64503), (1544, 61943), (2056, 59383), (4376, 52967), (8200, 40951), (16392, 16375)] (.o 0 (.o 1 (.o 2 (.o 3 (.s 53 (.o 4 (.o 5 (.o 6 (.o 7 (.o 8 (.o 9 (.o 10 (.o 11 (.o 12 (.o 13 (.o 14 (.o 15 .done)))))))))))) (.o 4 (.o 5 (.o 6 (.o 7 (.o 8 (.o 9 (.o 10 (.o 11 (.o 12 (.o 13 (.o 14 (.o 15 .done))))))))))))))))))) (.two .nil .nil)) (.one .nil)))) (.two (.two .nil (.two .nil .nil)) (.two (.join [] [71, 72, 73, 74, 75, 76, 77, 78, 79, 80, 81, 82, 83, 84] false (.ord 71 [(0, 65534), (0, 65533), (0, 65531), (0, 65527), (0, 65519), (0, 65503), (48, 65423), (64, 65343), (0, 65279), (0, 65023), (768, 63743), (1024, 62463), (2291, 61436), (6387, 53119), (16383, 49139), (32767, 14335)] (.o 0 (.o 1 (.o 2 (.o 3 (.o 4 (.o 5 (.o 6 (.o 7 (.o 8 (.o 9 (.o 10 (.o 11 (.o 12 (.o 13 (.o 14 (.o 15 .done)))))))))))))))))) (.two .nil .nil)))))))) (.two .nil .nil)))))
theorem Cf71_partitionEqual_ok : Cf71_partitionEqual.Ok := mkC_ok mixed tysOk zerosOk eqsOk ⟨Sf38_sched_Sched_State_2, trivial⟩ trivial
theorem Ef71_partitionEqual (x : (Sl × (Int × (Int × (Int × Unit))))) : evF Cf71_partitionEqual Try.f71 90 (.pair .sl (.pair (.int .i64) (.pair (.int .i64) (.pair (.int .i64) (.clo 38 .unit))))) (.int .i64) Af71_partitionEqual x = f71_partitionEqual x.1 x.2.1 x.2.2.1 x.2.2.2.1 x.2.2.2.2 := by kernel_rfl
theorem Sf71_partitionEqual : SoundF Try.prog 71 ⟨(.pair .sl (.pair (.int .i64) (.pair (.int .i64) (.pair (.int .i64) (.clo 38 .unit))))), (.int .i64), fun x => f71_partitionEqual x.1 x.2.1 x.2.2.1 x.2.2.2.1 x.2.2.2.2⟩ :=
  soundF_of Cf71_partitionEqual_ok Try.func71 (by kernel_rfl) (by kernel_rfl) Ef71_partitionEqual
noncomputable def Cf72_partition : Ctx := mkC Try.prog tys zeros eqs [(38, ⟨(.pair (.agg (.pair (.int .i64) (.pair (.int .i64) (.int .i64)))) (.agg (.pair (.int .i64) (.pair (.int .i64) (.int .i64))))), (.int .i64), fun x => f38_sched_Sched_State_2 x.1 x.2⟩)] []
/-- slices.partitionCmpFuncpalaversched.timer -/
noncomputable def f72_partition (x0 : Sl) (x1 : Int) (x2 : Int) (x3 : Int) (x4 : Unit) : M (Int × Bool) :=
  bnd (
  bnd (ordM 72 1 (regionIn 1 Try.f72)) fun (o2 : List Nat) =>
  bnd (ix 3 x0 x3) fun (p3 : Addr) =>
  bnd (ld (.agg (.pair (.int .i64) (.pair (.int .i64) (.int .i64)))) p3) fun (v4 : (Int × (Int × Int))) =>
  bnd (ix 3 x0 x1) fun (p5 : Addr) =>
  bnd (ld (.agg (.pair (.int .i64) (.pair (.int .i64) (.int .i64)))) p5) fun (v6 : (Int × (Int × Int))) =>
  bnd (ix 3 x0 x1) fun (p7 : Addr) =>
  bnd (wrs p7 0 [.int .i64 v4.1, .int .i64 v4.2.1, .int .i64 v4.2.2]) fun _ =>
  bnd (ret ()) fun _ =>
  bnd (ix 3 x0 x3) fun (p8 : Addr) =>
  bnd (wrs p8 0 [.int .i64 v6.1, .int .i64 v6.2.1, .int .i64 v6.2.2]) fun _ =>
  bnd (ret ()) fun _ =>
  ret ()) fun (s1 : Unit) =>
  loopM (fun (s9 : Int) =>
  bnd (
  bnd (ordM 72 3 (regionIn 3 Try.f72)) fun (o11 : List Nat) =>
  cnd (decide (s9 ≤ (IntKind.wrap .i64 (x2 - (1 : Int))))) (
  bnd (ix 3 x0 s9) fun (p12 : Addr) =>
  bnd (ld (.agg (.pair (.int .i64) (.pair (.int .i64) (.int .i64)))) p12) fun (v13 : (Int × (Int × Int))) =>
  bnd (ix 3 x0 x1) fun (p14 : Addr) =>
  bnd (ld (.agg (.pair (.int .i64) (.pair (.int .i64) (.int .i64)))) p14) fun (v15 : (Int × (Int × Int))) =>
  bnd (f38_sched_Sched_State_2 v13 v15) fun (r16 : Int) =>
  bnd (ret ()) fun _ =>
  ret (decide (r16 < (0 : Int)))) (
  bnd (ret ()) fun _ =>
  ret false)) fun (s10 : Bool) =>
  cnd s10 (
  ret (Sum.inl (IntKind.wrap .i64 (s9 + (1 : Int))))) (
  bnd (
  loopM (fun (s17 : Int) =>
  bnd (
  bnd (ordM 72 5 (regionIn 5 Try.f72)) fun (o19 : List Nat) =>
  cnd (decide (s9 ≤ s17)) (
  bnd (ix 3 x0 s17) fun (p20 : Addr) =>
  bnd (ld (.agg (.pair (.int .i64) (.pair (.int .i64) (.int .i64)))) p20) fun (v21 : (Int × (Int × Int))) =>
  bnd (ix 3 x0 x1) fun (p22 : Addr) =>
  bnd (ld (.agg (.pair (.int .i64) (.pair (.int .i64) (.int .i64)))) p22) fun (v23 : (Int × (Int × Int))) =>
  bnd (f38_sched_Sched_State_2 v21 v23) fun (r24 : Int) =>
  bnd (ret ()) fun _ =>
  ret (!(decide (r24 < (0 : Int))))) (
  bnd (ret ()) fun _ =>
  ret false)) fun (s18 : Bool) =>
  cnd s18 (
  ret (Sum.inl (IntKind.wrap .i64 (s17 - (1 : Int))))) (
  bnd (
  cnd (decide (s9 > s17)) (
  bnd (
  bnd (ordM 72 8 (regionIn 8 Try.f72)) fun (o26 : List Nat) =>
  bnd (ix 3 x0 x1) fun (p27 : Addr) =>
  bnd (ld (.agg (.pair (.int .i64) (.pair (.int .i64) (.int .i64)))) p27) fun (v28 : (Int × (Int × Int))) =>
  bnd (ix 3 x0 s17) fun (p29 : Addr) =>
  bnd (ld (.agg (.pair (.int .i64) (.pair (.int .i64) (.int .i64)))) p29) fun (v30 : (Int × (Int × Int))) =>
  bnd (ix 3 x0 s17) fun (p31 : Addr) =>
  bnd (wrs p31 0 [.int .i64 v28.1, .int .i64 v28.2.1, .int .i64 v28.2.2]) fun _ =>
  bnd (ret ()) fun _ =>
  bnd (ix 3 x0 x1) fun (p32 : Addr) =>
  bnd (wrs p32 0 [.int .i64 v30.1, .int .i64 v30.2.1, .int .i64 v30.2.2]) fun _ =>
  bnd (ret ()) fun _ =>
  ret ()) fun (s25 : Unit) =>
  ret (s17, true)) (
  bnd (
  bnd (ordM 72 10 (regionIn 10 Try.f72)) fun (o34 : List Nat) =>
  bnd (ix 3 x0 s17) fun (p35 : Addr) =>
  bnd (ld (.agg (.pair (.int .i64) (.pair (.int .i64) (.int .i64)))) p35) fun (v36 : (Int × (Int × Int))) =>
  bnd (ix 3 x0 s9) fun (p37 : Addr) =>
  bnd (ld (.agg (.pair (.int .i64) (.pair (.int .i64) (.int .i64)))) p37) fun (v38 : (Int × (Int × Int))) =>
  bnd (ix 3 x0 s9) fun (p39 : Addr) =>
  bnd (wrs p39 0 [.int .i64 v36.1, .int .i64 v36.2.1, .int .i64 v36.2.2]) fun _ =>
  bnd (ret ()) fun _ =>
  bnd (ix 3 x0 s17) fun (p40 : Addr) =>
  bnd (wrs p40 0 [.int .i64 v38.1, .int .i64 v38.2.1, .int .i64 v38.2.2]) fun _ =>
  bnd (ret ()) fun _ =>
  ret ()) fun (s33 : Unit) =>
  loopM (fun (s41 : (Int × Int)) =>
  loopM (fun (s42 : Int) =>
  bnd (
  bnd (ordM 72 13 (regionIn 13 Try.f72)) fun (o44 : List Nat) =>
  cnd (decide (s42 ≤ s41.2)) (
  bnd (ix 3 x0 s42) fun (p45 : Addr) =>
  bnd (ld (.agg (.pair (.int .i64) (.pair (.int .i64) (.int .i64)))) p45) fun (v46 : (Int × (Int × Int))) =>
  bnd (ix 3 x0 x1) fun (p47 : Addr) =>
  bnd (ld (.agg (.pair (.int .i64) (.pair (.int .i64) (.int .i64)))) p47) fun (v48 : (Int × (Int × Int))) =>
  bnd (f38_sched_Sched_State_2 v46 v48) fun (r49 : Int) =>
  bnd (ret ()) fun _ =>
  ret (decide (r49 < (0 : Int)))) (
  bnd (ret ()) fun _ =>
  ret false)) fun (s43 : Bool) =>
  cnd s43 (
  ret (Sum.inl (IntKind.wrap .i64 (s42 + (1 : Int))))) (
  bnd (
  loopM (fun (s50 : Int) =>
  bnd (
  bnd (ordM 72 15 (regionIn 15 Try.f72)) fun (o52 : List Nat) =>
  cnd (decide (s42 ≤ s50)) (
  bnd (ix 3 x0 s50) fun (p53 : Addr) =>
  bnd (ld (.agg (.pair (.int .i64) (.pair (.int .i64) (.int .i64)))) p53) fun (v54 : (Int × (Int × Int))) =>
  bnd (ix 3 x0 x1) fun (p55 : Addr) =>
  bnd (ld (.agg (.pair (.int .i64) (.pair (.int .i64) (.int .i64)))) p55) fun (v56 : (Int × (Int × Int))) =>
  bnd (f38_sched_Sched_State_2 v54 v56) fun (r57 : Int) =>
  bnd (ret ()) fun _ =>
  ret (!(decide (r57 < (0 : Int))))) (
  bnd (ret ()) fun _ =>
  ret false)) fun (s51 : Bool) =>
  cnd s51 (
  ret (Sum.inl (IntKind.wrap .i64 (s50 - (1 : Int))))) (
  bnd (
  cnd (decide (s42 > s50)) (
  bnd (
  bnd (
  bnd (ordM 72 21 (regionIn 21 Try.f72)) fun (o59 : List Nat) =>
  bnd (ix 3 x0 x1) fun (p60 : Addr) =>
  bnd (ld (.agg (.pair (.int .i64) (.pair (.int .i64) (.int .i64)))) p60) fun (v61 : (Int × (Int × Int))) =>
  bnd (ix 3 x0 s50) fun (p62 : Addr) =>
  bnd (ld (.agg (.pair (.int .i64) (.pair (.int .i64) (.int .i64)))) p62) fun (v63 : (Int × (Int × Int))) =>
  bnd (ix 3 x0 s50) fun (p64 : Addr) =>
  bnd (wrs p64 0 [.int .i64 v61.1, .int .i64 v61.2.1, .int .i64 v61.2.2]) fun _ =>
  bnd (ret ()) fun _ =>
  bnd (ix 3 x0 x1) fun (p65 : Addr) =>
  bnd (wrs p65 0 [.int .i64 v63.1, .int .i64 v63.2.1, .int .i64 v63.2.2]) fun _ =>
  bnd (ret ()) fun _ =>
  ret ()) fun (s58 : Unit) =>
  ret (s50, false)) fun r66 =>
  ret (Sum.inr r66)) (
  bnd (
  bnd (ordM 72 18 (regionIn 18 Try.f72)) fun (o68 : List Nat) =>
  bnd (ix 3 x0 s50) fun (p69 : Addr) =>
  bnd (ld (.agg (.pair (.int .i64) (.pair (.int .i64) (.int .i64)))) p69) fun (v70 : (Int × (Int × Int))) =>
  bnd (ix 3 x0 s42) fun (p71 : Addr) =>
  bnd (ld (.agg (.pair (.int .i64) (.pair (.int .i64) (.int .i64)))) p71) fun (v72 : (Int × (Int × Int))) =>
  bnd (ix 3 x0 s42) fun (p73 : Addr) =>
  bnd (wrs p73 0 [.int .i64 v70.1, .int .i64 v70.2.1, .int .i64 v70.2.2]) fun _ =>
  bnd (ret ()) fun _ =>
  bnd (ix 3 x0 s50) fun (p74 : Addr) =>
  bnd (wrs p74 0 [.int .i64 v72.1, .int .i64 v72.2.1, .int .i64 v72.2.2]) fun _ =>
  bnd (ret ()) fun _ =>
  ret ()) fun (s67 : Unit) =>
  ret (Sum.inl ((IntKind.wrap .i64 (s42 + (1 : Int))), (IntKind.wrap .i64 (s50 - (1 : Int))))))) fun r75 =>
  ret (Sum.inr r75))) s41.2) fun r76 =>
  ret (Sum.inr r76))) s41.1) ((IntKind.wrap .i64 (s9 + (1 : Int))), (IntKind.wrap .i64 (s17 - (1 : Int)))))) fun r77 =>
  ret (Sum.inr r77))) (IntKind.wrap .i64 (x2 - (1 : Int)))) fun r78 =>
  ret (Sum.inr r78))) (IntKind.wrap .i64 (x1 + (1 : Int)))
noncomputable def Af72_partition : Ann := (.two .nil (.two (.join [] [14, 15, 16, 17, 18, 19, 20, 21, 22, 23, 24, 25, 26, 27] false (.ord 72 [(0, 65534), (0, 65533), (0, 65531), (0, 65527), (0, 65519), (0, 65503), (48, 65423), (64, 65343), (0, 65279), (0, 65023), (768, 63743), (1024, 62463), (2291, 61436), (6387, 53119), (16383, 49139), (32767, 14335)] (.o 0 (.o 1 (.o 2 (.o 3 (.o 4 (.o 5 (.o 6 (.o 7 (.o 8 (.o 9 (.o 10 (.o 11 (.o 12 (.o 13 (.o 14 (.o 15 .done)))))))))))))))))) (.two .nil (.two (.one (.loop [(12, (.int .i64))] [32, 33, 34, 35, 36, 37, 38, 39, 40, 41, 42, 43, 44, 45, 46, 47, 48, 49] (.two (.two (.join [(47, .bool)] [32, 33, 34, 35, 36, 37, 38, 39, 40, 41, 42, 43, 44, 45, 46] false (.ord 72 [(0, 65534), (0, 65533), (3, 65528), (4, 65523), (8, 65511), (8, 65495), (8, 65463), (104, 65303), (136, 65143), (8, 65015), (8, 64503), (1544, 61943), (2056, 59383), (4376, 52967), (8200, 40951), (16392, 16375)] (.o 0 (.o 1 (.o 2 (.o 3 (.s 35 (.o 4 (.o 5 (.o 6 (.o 7 (.o 8 (.o 9 (.o 10 (.o 11 (.o 12 (.o 13 (.o 14 (.o 15 .done)))))))))))) (.o 4 (.o 5 (.o 6 (.o 7 (.o 8 (.o 9 (.o 10 (.o 11 (.o 12 (.o 13 (.o 14 (.o 15 .done))))))))))))))))))) (.two .nil .nil)) (.one .nil)))) (.two (.one (.loop [(13, (.int .i64))] [50, 51, 52, 53, 54, 55, 56, 57, 58, 59, 60, 61, 62, 63, 64, 65, 66, 67, 68] (.two (.two (.join [(66, .bool)] [50, 51, 52, 53, 54, 55, 56, 57, 58, 59, 60, 61, 62, 63, 64, 65] false (.ord 72 [(0, 131070), (0, 131069), (3, 131064), (4, 131059), (8, 131047), (8, 131031), (8, 130999), (104, 130839), (136, 130679), (8, 130551), (8, 130039), (1544, 127479), (2056, 124919), (4376, 118503), (8200, 106487), (16392, 81911), (32776, 32759)] (.o 0 (.o 1 (.o 2 (.o 3 (.s 53 (.o 4 (.o 5 (.o 6 (.o 7 (.o 8 (.o 9 (.o 10 (.o 11 (.o 12 (.o 13 (.o 14 (.o 15 (.o 16 .done))))))))))))) (.o 4 (.o 5 (.o 6 (.o 7 (.o 8 (.o 9 (.o 10 (.o 11 (.o 12 (.o 13 (.o 14 (.o 15 (.o 16 .done)))))))))))))))))))) (.two .nil .nil)) (.one .nil)))) (.two (.two .nil (.two (.two (.join [] [72, 73, 74, 75, 76, 77, 78, 79, 80, 81, 82, 83, 84, 85] false (.ord 72 [(0, 65534), (0, 65533), (0, 65531), (0, 65527), (0, 65519), (0, 65503), (48, 65423), (64, 65343), (0, 65279), (0, 65023), (768, 63743), (1024, 62463), (2291, 61436), (6387, 53119), (16383, 49139), (32767, 14335)] (.o 0 (.o 1 (.o 2 (.o 3 (.o 4 (.o 5 (.o 6 (.o 7 (.o 8 (.o 9 (.o 10 (.o 11 (.o 12 (.o 13 (.o 14 (.o 15 .done)))))))))))))))))) (.two .nil .nil)) .nil)) (.two (.join [] [87, 88, 89, 90, 91, 92, 93, 94, 95, 96, 97, 98, 99, 100] false (.ord 72 [(0, 65534), (0, 65533), (0, 65531), (0, 65527), (0, 65519), (0, 65503), (48, 65423), (64, 65343), (0, 65279), (0, 65023), (768, 63743), (1024, 62463), (2291, 61436), (6387, 53119), (16383, 49139), (32767, 14335)] (.o 0 (.o 1 (.o 2 (.o 3 (.o 4 (.o 5 (.o 6 (.o 7 (.o 8 (.o 9 (.o 10 (.o 11 (.o 12 (.o 13 (.o 14 (.o 15 .done)))))))))))))))))) (.two .nil (.two .nil (.two (.one (.loop [(12, (.int .i64)), (13, (.int .i64))] [105, 106, 107, 108, 109, 110, 111, 112, 113, 114, 115, 116, 117, 118, 119, 120, 121, 122, 123, 124, 125, 126, 127, 128, 129, 130, 131, 132, 133, 134, 135, 136, 137, 138, 139, 140, 141, 142, 143, 144, 145, 146, 147, 148, 149, 150, 151, 152, 153, 154, 155, 156, 157, 158, 159, 160, 161, 162] (.one (.two (.one (.loop [(12, (.int .i64))] [105, 106, 107, 108, 109, 110, 111, 112, 113, 114, 115, 116, 117, 118, 119, 120, 121, 122] (.two (.two (.join [(120, .bool)] [105, 106, 107, 108, 109, 110, 111, 112, 113, 114, 115, 116, 117, 118, 119] false (.ord 72 [(0, 65534), (0, 65533), (3, 65528), (4, 65523), (8, 65511), (8, 65495), (8, 65463), (104, 65303), (136, 65143), (8, 65015), (8, 64503), (1544, 61943), (2056, 59383), (4376, 52967), (8200, 40951), (16392, 16375)] (.o 0 (.o 1 (.o 2 (.o 3 (.s 108 (.o 4 (.o 5 (.o 6 (.o 7 (.o 8 (.o 9 (.o 10 (.o 11 (.o 12 (.o 13 (.o 14 (.o 15 .done)))))))))))) (.o 4 (.o 5 (.o 6 (.o 7 (.o 8 (.o 9 (.o 10 (.o 11 (.o 12 (.o 13 (.o 14 (.o 15 .done))))))))))))))))))) (.two .nil .nil)) (.one .nil)))) (.two (.one (.loop [(13, (.int .i64))] [123, 124, 125, 126, 127, 128, 129, 130, 131, 132, 133, 134, 135, 136, 137, 138, 139, 140, 141] (.two (.two (.join [(139, .bool)] [123, 124, 125, 126, 127, 128, 129, 130, 131, 132, 133, 134, 135, 136, 137, 138] false (.ord 72 [(0, 131070), (0, 131069), (3, 131064), (4, 131059), (8, 131047), (8, 131031), (8, 130999), (104, 130839), (136, 130679), (8, 130551), (8, 130039), (1544, 127479), (2056, 124919), (4376, 118503), (8200, 106487), (16392, 81911), (32776, 32759)] (.o 0 (.o 1 (.o 2 (.o 3 (.s 126 (.o 4 (.o 5 (.o 6 (.o 7 (.o 8 (.o 9 (.o 10 (.o 11 (.o 12 (.o 13 (.o 14 (.o 15 (.o 16 .done))))))))))))) (.o 4 (.o 5 (.o 6 (.o 7 (.o 8 (.o 9 (.o 10 (.o 11 (.o 12 (.o 13 (.o 14 (.o 15 (.o 16 .done)))))))))))))))))))) (.two .nil .nil)) (.one .nil)))) (.two (.two .nil (.two .nil .nil)) (.two (.join [] [145, 146, 147, 148, 149, 150, 151, 152, 153, 154, 155, 156, 157, 158] false (.ord 72 [(0, 65534), (0, 65533), (0, 65531), (0, 65527), (0, 65519), (0, 65503), (48, 65423), (64, 65343), (0, 65279), (0, 65023), (768, 63743), (1024, 62463), (2291, 61436), (6387, 53119), (16383, 49139), (32767, 14335)] (.o 0 (.o 1 (.o 2 (.o 3 (.o 4 (.o 5 (.o 6 (.o 7 (.o 8 (.o 9 (.o 10 (.o 11 (.o 12 (.o 13 (.o 14 (.o 15 .done)))))))))))))))))) (.two .nil .nil)))))))) (.two (.join [] [163, 164, 165, 166, 167, 168, 169, 170, 171, 172, 173, 174, 175, 176] false (.ord 72 [(0, 65534), (0, 65533), (0, 65531), (0, 65527), (0, 65519), (0, 65503), (48, 65423), (64, 65343), (0, 65279), (0, 65023), (768, 63743), (1024, 62463), (2291, 61436), (6387, 53119), (16383, 49139), (32767, 14335)] (.o 0 (.o 1 (.o 2 (.o 3 (.o 4 (.o 5 (.o 6 (.o 7 (.o 8 (.o 9 (.o 10 (.o 11 (.o 12 (.o 13 (.o 14 (.o 15 .done)))))))))))))))))) (.two .nil .nil))))))))))))
theorem Cf72_partition_ok : Cf72_partition.Ok := mkC_ok mixed tysOk zerosOk eqsOk ⟨Sf38_sched_Sched_State_2, trivial⟩ trivial
theorem Ef72_partition (x : (Sl × (Int × (Int × (Int × Unit))))) : evF Cf72_partition Try.f72 178 (.pair .sl (.pair (.int .i64) (.pair (.int .i64) (.pair (.int .i64) (.clo 38 .unit))))) (.tup (.pair (.int .i64) .bool)) Af72_partition x = f72_partition x.1 x.2.1 x.2.2.1 x.2.2.2.1 x.2.2.2.2 := by kernel_rfl
theorem Sf72_partition : SoundF Try.prog 72 ⟨(.pair .sl (.pair (.int .i64) (.pair (.int .i64) (.pair (.int .i64) (.clo 38 .unit))))), (.tup (.pair (.int .i64) .bool)), fun x => f72_partition x.1 x.2.1 x.2.2.1 x.2.2.2.1 x.2.2.2.2⟩ :=
  soundF_of Cf72_partition_ok Try.func72 (by kernel_rfl) (by kernel_rfl) Ef72_partition
noncomputable def Cf49_pdqsort (R49 : Sl → Int → Int → Int → Unit → M Unit) : Ctx := mkC Try.prog tys zeros eqs [(38, ⟨(.pair (.agg (.pair (.int .i64) (.pair (.int .i64) (.int .i64)))) (.agg (.pair (.int .i64) (.pair (.int .i64) (.int .i64))))), (.int .i64), fun x => f38_sched_Sched_State_2 x.1 x.2⟩), (49, ⟨(.pair .sl (.pair (.int .i64) (.pair (.int .i64) (.pair (.int .i64) (.clo 38 .unit))))), (.tup .unit), fun x => R49 x.1 x.2.1 x.2.2.1 x.2.2.2.1 x.2.2.2.2⟩), (65, ⟨(.pair .sl (.pair (.int .i64) (.pair (.int .i64) (.clo 38 .unit)))), (.tup .unit), fun x => f65_insertion x.1 x.2.1 x.2.2.1 x.2.2.2⟩), (66, ⟨(.pair .sl (.pair (.int .i64) (.pair (.int .i64) (.clo 38 .unit)))), (.tup .unit), fun x => f66_heapSort x.1 x.2.1 x.2.2.1 x.2.2.2⟩), (67, ⟨(.pair .sl (.pair (.int .i64) (.pair (.int .i64) (.clo 38 .unit)))), (.tup .unit), fun x => f67_breakPatterns x.1 x.2.1 x.2.2.1 x.2.2.2⟩), (68, ⟨(.pair .sl (.pair (.int .i64) (.pair (.int .i64) (.clo 38 .unit)))), (.tup (.pair (.int .i64) (.int .i64))), fun x => f68_choosePivot x.1 x.2.1 x.2.2.1 x.2.2.2⟩), (69, ⟨(.pair .sl (.pair (.int .i64) (.pair (.int .i64) (.clo 38 .unit)))), (.tup .unit), fun x => f69_reverseRange x.1 x.2.1 x.2.2.1 x.2.2.2⟩), (70, ⟨(.pair .sl (.pair (.int .i64) (.pair (.int .i64) (.clo 38 .unit)))), .bool, fun x => f70_partialInsertion x.1 x.2.1 x.2.2.1 x.2.2.2⟩), (71, ⟨(.pair .sl (.pair (.int .i64) (.pair (.int .i64) (.pair (.int .i64) (.clo 38 .unit))))), (.int .i64), fun x => f71_partitionEqual x.1 x.2.1 x.2.2.1 x.2.2.2.1 x.2.2.2.2⟩), (72, ⟨(.pair .sl (.pair (.int .i64) (.pair (.int .i64) (.pair (.int .i64) (.clo 38 .unit))))), (.tup (.pair (.int .i64) .bool)), fun x => f72_partition x.1 x.2.1 x.2.2.1 x.2.2.2.1 x.2.2.2.2⟩)] []
/-- slices.pdqsortCmpFuncpalaversched.timer -/
noncomputable def f49_pdqsort (R49 : Sl → Int → Int → Int → Unit → M Unit) (x0 : Sl) (x1 : Int) (x2 : Int) (x3 : Int) (x4 : Unit) : M Unit :=
  loopM (fun (s1 : (Int × (Int × (Int × (Bool × Bool))))) =>
  bnd (
  cnd (decide ((IntKind.wrap .i64 (s1.2.1 - s1.1)) ≤ (12 : Int))) (
  bnd (f65_insertion x0 s1.1 s1.2.1 x4) fun (r3 : Unit) =>
  ret (Sum.inr (Sum.inr ()))) (
  cnd (s1.2.2.1 == (0 : Int)) (
  bnd (f66_heapSort x0 s1.1 s1.2.1 x4) fun (r5 : Unit) =>
  ret (Sum.inr (Sum.inr ()))) (
  bnd (
  cnd (!s1.2.2.2.1) (
  bnd (f67_breakPatterns x0 s1.1 s1.2.1 x4) fun (r8 : Unit) =>
  ret (IntKind.wrap .i64 (s1.2.2.1 - (1 : Int)))) (
  ret s1.2.2.1)) fun (s7 : Int) =>
  bnd (f68_choosePivot x0 s1.1 s1.2.1 x4) fun (r9 : (Int × Int)) =>
  bnd (
  cnd (r9.2 == (2 : Int)) (
  bnd (f69_reverseRange x0 s1.1 s1.2.1 x4) fun (r11 : Unit) =>
  ret ((IntKind.wrap .i64 ((IntKind.wrap .i64 (s1.2.1 - (1 : Int))) - (IntKind.wrap .i64 (r9.1 - s1.1)))), (1 : Int))) (
  ret (r9.1, r9.2))) fun (s10 : (Int × Int)) =>
  bnd (
  cnd (cond (cond s1.2.2.2.1 s1.2.2.2.2 false) (s10.2 == (1 : Int)) false) (
  bnd (f70_partialInsertion x0 s1.1 s1.2.1 x4) fun (r13 : Bool) =>
  cnd r13 (
  ret (Sum.inr (Sum.inr (Sum.inr ())))) (
  ret (Sum.inl ()))) (
  ret (Sum.inl ()))) (fun
  | .inl (s12 : Unit) =>
  bnd (
  bnd (ordM 49 17 (regionIn 17 Try.f49)) fun (o18 : List Nat) =>
  cnd (decide (s1.1 > (0 : Int))) (
  bnd (ix 3 x0 (IntKind.wrap .i64 (s1.1 - (1 : Int)))) fun (p19 : Addr) =>
  bnd (ld (.agg (.pair (.int .i64) (.pair (.int .i64) (.int .i64)))) p19) fun (v20 : (Int × (Int × Int))) =>
  bnd (ix 3 x0 s10.1) fun (p21 : Addr) =>
  bnd (ld (.agg (.pair (.int .i64) (.pair (.int .i64) (.int .i64)))) p21) fun (v22 : (Int × (Int × Int))) =>
  bnd (f38_sched_Sched_State_2 v20 v22) fun (r23 : Int) =>
  bnd (ret ()) fun _ =>
  ret (!(decide (r23 < (0 : Int))))) (
  bnd (ret ()) fun _ =>
  ret false)) fun (s17 : Bool) =>
  cnd s17 (
  bnd (f71_partitionEqual x0 s1.1 s1.2.1 s10.1 x4) fun (r24 : Int) =>
  ret (Sum.inl (r24, s1.2.1, s7, s1.2.2.2.1, s1.2.2.2.2))) (
  bnd (f72_partition x0 s1.1 s1.2.1 s10.1 x4) fun (r25 : (Int × Bool)) =>
  bnd (
  cnd (decide ((IntKind.wrap .i64 (r25.1 - s1.1)) < (IntKind.wrap .i64 (s1.2.1 - r25.1)))) (
  bnd (R49 x0 s1.1 r25.1 s7 x4) fun (r27 : Unit) =>
  ret ((IntKind.wrap .i64 (r25.1 + (1 : Int))), s1.2.1, (decide ((IntKind.wrap .i64 (r25.1 - s1.1)) ≥ (IntKind.wrap .i64 (Int.tdiv (IntKind.wrap .i64 (s1.2.1 - s1.1)) (8 : Int))))))) (
  bnd (R49 x0 (IntKind.wrap .i64 (r25.1 + (1 : Int))) s1.2.1 s7 x4) fun (r28 : Unit) =>
  ret (s1.1, r25.1, (decide ((IntKind.wrap .i64 (s1.2.1 - r25.1)) ≥ (IntKind.wrap .i64 (Int.tdiv (IntKind.wrap .i64 (s1.2.1 - s1.1)) (8 : Int)))))))) fun (s26 : (Int × (Int × Bool))) =>
  ret (Sum.inl (s26.1, s26.2.1, s7, s26.2.2, r25.2)))
  | .inr r29 => ret r29)))) (fun
  | .inl (s2 : (Int × (Int × (Int × (Bool × Bool))))) =>
  ret (Sum.inl (s2.1, s2.2.1, s2.2.2.1, s2.2.2.2.1, s2.2.2.2.2))
  | .inr r31 => ret r31)) (x1, x2, x3, true, true)
noncomputable def Af49_pdqsort : Ann := (.two .nil (.two .nil (.one (.loop [(1, (.int .i64)), (2, (.int .i64)), (3, (.int .i64)), (10, .bool), (11, .bool)] [12, 13, 14, 15, 16, 17, 18, 19, 20, 21, 22, 23, 24, 25, 26, 27, 28, 29, 30, 31, 32, 33, 34, 35, 36, 37, 38, 39, 40, 41, 42, 43, 44, 45, 46, 47, 48, 49, 50, 51, 52, 53, 54, 55, 56, 57, 58, 59, 60, 61, 62, 63, 64, 65, 66, 67, 68, 69, 70, 71, 72, 73, 74, 75, 76, 77, 78, 79, 80, 81, 82, 83, 84, 85, 86, 87, 88, 89, 90, 91, 92, 93, 94, 95, 96, 97, 98, 99, 100, 101, 102, 103, 104, 105, 106, 107, 108, 109, 110, 111, 112, 113, 114, 115, 116, 117, 118, 119, 120, 121, 122, 123, 124, 125, 126, 127, 128, 129, 130, 131, 132, 133, 134, 135, 136, 137, 138, 139, 140, 141, 142, 143, 144, 145, 146, 147] (.join [(1, (.int .i64)), (2, (.int .i64)), (3, (.int .i64)), (10, .bool), (11, .bool)] [12, 13, 14, 15, 16, 17, 18, 19, 20, 21, 22, 23, 24, 25, 26, 27, 28, 29, 30, 31, 32, 33, 34, 35, 36, 37, 38, 39, 40, 41, 42, 43, 44, 45, 46, 47, 48, 49, 50, 51, 52, 53, 54, 55, 56, 57, 58, 59, 60, 61, 62, 63, 64, 65, 66, 67, 68, 69, 70, 71, 72, 73, 74, 75, 76, 77, 78, 79, 80, 81, 82, 83, 84, 85, 86, 87, 88, 89, 90, 91, 92, 93, 94, 95, 96, 97, 98, 99, 100, 101, 102, 103, 104, 105, 106, 107, 108, 109, 110, 111, 112, 113, 114, 115, 116, 117, 118, 119, 120, 121, 122, 123, 124, 125, 126, 127, 128, 129, 130, 131, 132, 133, 134, 135, 136, 137, 138, 139, 140, 141, 142, 143, 144, 145, 146, 147] true (.one (.two .nil (.two (.two .nil (.two (.two .nil .nil) .nil)) (.two (.two .nil (.two (.two .nil .nil) .nil)) (.two (.two .nil (.join [(3, (.int .i64))] [40, 41, 42, 43, 44, 45, 46] false (.two (.two .nil .nil) .nil))) (.two .nil (.two (.two .nil (.join [(13, (.int .i64)), (14, (.int .i64))] [57, 58, 59, 60, 61, 62, 63, 64, 65, 66, 67] false (.two (.two .nil (.two .nil .nil)) .nil))) (.two (.two .nil (.join [] [76, 77, 78, 79, 80] true (.two (.two .nil (.two .nil .nil)) .nil))) (.two (.two (.join [(97, .bool)] [81, 82, 83, 84, 85, 86, 87, 88, 89, 90, 91, 92, 93, 94, 95, 96] false (.ord 49 [(0, 131070), (1, 131068), (2, 131065), (4, 131059), (4, 131051), (4, 131035), (36, 130971), (84, 130859), (132, 130683), (4, 130555), (4, 130043), (1540, 127483), (2052, 124923), (4364, 118515), (8196, 106491), (16388, 81915), (32772, 32763)] (.o 0 (.o 1 (.o 2 (.s 83 (.o 3 (.o 4 (.o 5 (.o 6 (.o 7 (.o 8 (.o 9 (.o 10 (.o 11 (.o 12 (.o 13 (.o 14 (.o 15 (.o 16 .done)))))))))))))) (.o 3 (.o 4 (.o 5 (.o 6 (.o 7 (.o 8 (.o 9 (.o 10 (.o 11 (.o 12 (.o 13 (.o 14 (.o 15 (.o 16 .done)))))))))))))))))))) (.two (.two .nil (.two .nil .nil)) .nil)) (.two .nil (.two .nil (.two .nil (.two .nil (.two .nil (.join [(1, (.int .i64)), (2, (.int .i64)), (10, .bool)] [126, 127, 128, 129, 130, 131, 132, 133, 134, 135, 136, 137, 138, 139, 140, 141, 142, 143, 144, 145, 146, 147] false (.two (.two .nil (.two .nil .nil)) (.two .nil (.two .nil .nil)))))))))))))))))))))))
theorem Cf49_pdqsort_ok (R49 : Sl → Int → Int → Int → Unit → M Unit) (hR : SoundF Try.prog 49 ⟨(.pair .sl (.pair (.int .i64) (.pair (.int .i64) (.pair (.int .i64) (.clo 38 .unit))))), (.tup .unit), fun x => R49 x.1 x.2.1 x.2.2.1 x.2.2.2.1 x.2.2.2.2⟩) : (Cf49_pdqsort R49).Ok := mkC_ok mixed tysOk zerosOk eqsOk ⟨Sf38_sched_Sched_State_2, hR, Sf65_insertion, Sf66_heapSort, Sf67_breakPatterns, Sf68_choosePivot, Sf69_reverseRange, Sf70_partialInsertion, Sf71_partitionEqual, Sf72_partition, trivial⟩ trivial
theorem Ef49_pdqsort (R49 : Sl → Int → Int → Int → Unit → M Unit) (x : (Sl × (Int × (Int × (Int × Unit))))) : evF (Cf49_pdqsort R49) Try.f49 148 (.pair .sl (.pair (.int .i64) (.pair (.int .i64) (.pair (.int .i64) (.clo 38 .unit))))) (.tup .unit) Af49_pdqsort x = f49_pdqsort R49 x.1 x.2.1 x.2.2.1 x.2.2.2.1 x.2.2.2.2 := by kernel_rfl
/-- So often it calls itself at most. -/
noncomputable def pdqN : Nat → Sl → Int → Int → Int → Unit → M Unit
  | 0 => fun _ _ _ _ _ => fail
  | n + 1 => fun a b c d e => f49_pdqsort (pdqN n) a b c d e
theorem pdqN_sound : ∀ n, SoundF Try.prog 49 ⟨(.pair .sl (.pair (.int .i64) (.pair (.int .i64) (.pair (.int .i64) (.clo 38 .unit))))), (.tup .unit), fun x => pdqN n x.1 x.2.1 x.2.2.1 x.2.2.2.1 x.2.2.2.2⟩
  | 0 => ⟨⟨_, Try.func49, by kernel_rfl, by kernel_rfl⟩, fun _ _ _ _ h => by cases h⟩
  | n + 1 => soundF_of (Cf49_pdqsort_ok (pdqN n) (pdqN_sound n)) Try.func49 (by kernel_rfl) (by kernel_rfl) (Ef49_pdqsort (pdqN n))
noncomputable def f49_pdq (x0 : Sl) (x1 : Int) (x2 : Int) (x3 : Int) (x4 : Unit) : M Unit := pdqN (x0.len + 1) x0 x1 x2 x3 x4
theorem Sf49_pdq : SoundF Try.prog 49 ⟨(.pair .sl (.pair (.int .i64) (.pair (.int .i64) (.pair (.int .i64) (.clo 38 .unit))))), (.tup .unit), fun x => f49_pdq x.1 x.2.1 x.2.2.1 x.2.2.2.1 x.2.2.2.2⟩ :=
  ⟨(pdqN_sound 0).1, fun x w y w' h => (pdqN_sound (x.1.len + 1)).2 x w y w' h⟩
noncomputable def Cf37_SortFunc : Ctx := mkC Try.prog tys zeros eqs [(49, ⟨(.pair .sl (.pair (.int .i64) (.pair (.int .i64) (.pair (.int .i64) (.clo 38 .unit))))), (.tup .unit), fun x => f49_pdq x.1 x.2.1 x.2.2.1 x.2.2.2.1 x.2.2.2.2⟩), (50, ⟨(.int .u64), (.int .i64), fun x => f50_bits_Len x⟩)] []
/-- slices.SortFuncpalaversched.timerspalaversched.timer -/
noncomputable def f37_SortFunc (x0 : Sl) (x1 : Unit) : M Unit :=
  bnd (f50_bits_Len (IntKind.wrap .u64 (x0.len : Int))) fun (r1 : Int) =>
  bnd (f49_pdq x0 (0 : Int) (x0.len : Int) r1 x1) fun (r2 : Unit) =>
  ret ()
noncomputable def Af37_SortFunc : Ann := (.two .nil .nil)
theorem Cf37_SortFunc_ok : Cf37_SortFunc.Ok := mkC_ok mixed tysOk zerosOk eqsOk ⟨Sf49_pdq, Sf50_bits_Len, trivial⟩ trivial
theorem Ef37_SortFunc (x : (Sl × Unit)) : evF Cf37_SortFunc Try.f37 14 (.pair .sl (.clo 38 .unit)) (.tup .unit) Af37_SortFunc x = f37_SortFunc x.1 x.2 := by kernel_rfl
theorem Sf37_SortFunc : SoundF Try.prog 37 ⟨(.pair .sl (.clo 38 .unit)), (.tup .unit), fun x => f37_SortFunc x.1 x.2⟩ :=
  soundF_of Cf37_SortFunc_ok Try.func37 (by kernel_rfl) (by kernel_rfl) Ef37_SortFunc
noncomputable def Cf16_sched_Sched_State : Ctx := mkC Try.prog tys zeros eqs [(35, ⟨(.pair .sl .adr), (.tup .unit), fun x => f35_sched_Sched_State_1 x.1 x.2⟩), (36, ⟨.sl, .sl, fun x => f36_Clonetm x⟩), (37, ⟨(.pair .sl (.clo 38 .unit)), (.tup .unit), fun x => f37_SortFunc x.1 x.2⟩)] []
/-- (*palaversched.Sched).State -/
noncomputable def f16_sched_Sched_State (x0 : Option Addr) : M Sl :=
  bnd (
  bnd (ordM 16 1 (regionIn 1 Try.f16)) fun (o2 : List Nat) =>
  bnd (drf x0) fun (p3 : Addr) =>
  bnd (ld (.int .i64) (Addr.add p3 0)) fun (v4 : Int) =>
  bnd (drf x0) fun (p5 : Addr) =>
  bnd (ld (.int .i64) (Addr.add p5 1)) fun (v6 : Int) =>
  bnd (drf x0) fun (p7 : Addr) =>
  bnd (ld .sl (Addr.add p7 2)) fun (v8 : Sl) =>
  cnd (bef o2 13 14) (
  bnd (runV Try.prog .sl (Instr.buildSlice 31 3 #[(0, .int .i64 v4), (1, .int .i64 v6), (2, .int .i64 (v8.len : Int))])) fun (v9 : Sl) =>
  bnd (
  bnd (chk .sl (Addr.add p7 2) v8) fun _ =>
  ret ()) fun _ =>
  bnd (newC 31 [.slice none 0 0]) fun (p10 : Addr) =>
  bnd (
  bnd (chk .sl (Addr.add p7 2) v8) fun _ =>
  ret ()) fun _ =>
  bnd (wrs p10 0 [.slice v9.a v9.len v9.cap]) fun _ =>
  bnd (ret ()) fun _ =>
  ret p10) (
  bnd (newC 31 [.slice none 0 0]) fun (p11 : Addr) =>
  bnd (
  bnd (chk .sl (Addr.add p7 2) v8) fun _ =>
  bnd (chk (.int .i64) (Addr.add p5 1) v6) fun _ =>
  bnd (chk (.int .i64) (Addr.add p3 0) v4) fun _ =>
  ret ()) fun _ =>
  bnd (runV Try.prog .sl (Instr.buildSlice 31 3 #[(0, .int .i64 v4), (1, .int .i64 v6), (2, .int .i64 (v8.len : Int))])) fun (v12 : Sl) =>
  bnd (
  bnd (chk .sl (Addr.add p7 2) v8) fun _ =>
  ret ()) fun _ =>
  bnd (wrs p11 0 [.slice v12.a v12.len v12.cap]) fun _ =>
  bnd (ret ()) fun _ =>
  ret p11)) fun (s1 : Addr) =>
  bnd (drf x0) fun (p13 : Addr) =>
  bnd (ld .sl (Addr.add p13 2)) fun (v14 : Sl) =>
  loopM (fun (s15 : Int) =>
  cnd (decide (s15 < (v14.len : Int))) (
  bnd (ix 3 v14 s15) fun (p16 : Addr) =>
  bnd (ld (.agg (.pair (.int .i64) (.pair (.int .u8) (.int .i64)))) p16) fun (v17 : (Int × (Int × Int))) =>
  bnd (newC 61 [.int .i64 (0 : Int), .int .u8 (0 : Int), .int .i64 (0 : Int)]) fun (p18 : Addr) =>
  bnd (wrs p18 0 [.int .i64 v17.1, .int .u8 v17.2.1, .int .i64 v17.2.2]) fun _ =>
  bnd (ld .sl s1) fun (v19 : Sl) =>
  bnd (ld (.int .i64) (Addr.add p18 0)) fun (v20 : Int) =>
  bnd (ld (.int .u8) (Addr.add p18 1)) fun (v21 : Int) =>
  bnd (runV Try.prog .sl (Instr.buildSlice 31 2 #[(0, .int .i64 v20), (1, .int .i64 (IntKind.wrap .i64 v21))])) fun (v22 : Sl) =>
  bnd (runV Try.prog .sl (Builtin.append_ #[31, 31] 31 #[.slice v19.a v19.len v19.cap, .slice v22.a v22.len v22.cap])) fun (v23 : Sl) =>
  bnd (wrs s1 0 [.slice v23.a v23.len v23.cap]) fun _ =>
  ret (Sum.inl (IntKind.wrap .i64 (s15 + (1 : Int))))) (
  bnd (
  bnd (
  bnd (ordM 16 8 (regionIn 8 Try.f16)) fun (o25 : List Nat) =>
  bnd (ld .sl s1) fun (v26 : Sl) =>
  bnd (drf x0) fun (p27 : Addr) =>
  bnd (ld .sl (Addr.add p27 3)) fun (v28 : Sl) =>
  bnd (runV Try.prog .sl (Instr.buildSlice 31 1 #[(0, .int .i64 (v28.len : Int))])) fun (v29 : Sl) =>
  bnd (
  bnd (chk .sl (Addr.add p27 3) v28) fun _ =>
  bnd (chk .sl s1 v26) fun _ =>
  ret ()) fun _ =>
  bnd (runV Try.prog .sl (Builtin.append_ #[31, 31] 31 #[.slice v26.a v26.len v26.cap, .slice v29.a v29.len v29.cap])) fun (v30 : Sl) =>
  bnd (
  bnd (chk .sl (Addr.add p27 3) v28) fun _ =>
  ret ()) fun _ =>
  bnd (wrs s1 0 [.slice v30.a v30.len v30.cap]) fun _ =>
  bnd (ret ()) fun _ =>
  ret ()) fun (s24 : Unit) =>
  bnd (drf x0) fun (p31 : Addr) =>
  bnd (ld .sl (Addr.add p31 3)) fun (v32 : Sl) =>
  loopM (fun (s33 : Int) =>
  cnd (decide (s33 < (v32.len : Int))) (
  bnd (ix 2 v32 s33) fun (p34 : Addr) =>
  bnd (ld (.agg (.pair (.int .i64) .sl)) p34) fun (v35 : (Int × Sl)) =>
  bnd (newC 66 [.int .i64 (0 : Int), .slice none 0 0]) fun (p36 : Addr) =>
  bnd (wrs p36 0 [.int .i64 v35.1, .slice v35.2.a v35.2.len v35.2.cap]) fun _ =>
  bnd (ld .sl s1) fun (v37 : Sl) =>
  bnd (ld (.int .i64) (Addr.add p36 0)) fun (v38 : Int) =>
  bnd (runV Try.prog .sl (Instr.buildSlice 31 1 #[(0, .int .i64 v38)])) fun (v39 : Sl) =>
  bnd (runV Try.prog .sl (Builtin.append_ #[31, 31] 31 #[.slice v37.a v37.len v37.cap, .slice v39.a v39.len v39.cap])) fun (v40 : Sl) =>
  bnd (wrs s1 0 [.slice v40.a v40.len v40.cap]) fun _ =>
  bnd (ld .sl (Addr.add p36 1)) fun (v41 : Sl) =>
  bnd (f35_sched_Sched_State_1 v41 s1) fun (r42 : Unit) =>
  ret (Sum.inl (IntKind.wrap .i64 (s33 + (1 : Int))))) (
  bnd (
  loopM (fun (s43 : Int) =>
  cnd (decide (s43 ≤ (16 : Int))) (
  bnd (drf x0) fun (p44 : Addr) =>
  bnd (ixA 17 1 (Addr.add p44 4) s43) fun (p45 : Addr) =>
  bnd (ld .sl p45) fun (v46 : Sl) =>
  bnd (f35_sched_Sched_State_1 v46 s1) fun (r47 : Unit) =>
  ret (Sum.inl (IntKind.wrap .i64 (s43 + (1 : Int))))) (
  bnd (
  bnd (drf x0) fun (p48 : Addr) =>
  bnd (ld .sl (Addr.add p48 21)) fun (v49 : Sl) =>
  bnd (f36_Clonetm v49) fun (r50 : Sl) =>
  bnd (f37_SortFunc r50 ()) fun (r51 : Unit) =>
  bnd (ld .sl s1) fun (v52 : Sl) =>
  bnd (runV Try.prog .sl (Instr.buildSlice 31 1 #[(0, .int .i64 (r50.len : Int))])) fun (v53 : Sl) =>
  bnd (runV Try.prog .sl (Builtin.append_ #[31, 31] 31 #[.slice v52.a v52.len v52.cap, .slice v53.a v53.len v53.cap])) fun (v54 : Sl) =>
  bnd (wrs s1 0 [.slice v54.a v54.len v54.cap]) fun _ =>
  loopM (fun (s55 : Int) =>
  cnd (decide (s55 < (r50.len : Int))) (
  bnd (ix 3 r50 s55) fun (p56 : Addr) =>
  bnd (ld (.agg (.pair (.int .i64) (.pair (.int .i64) (.int .i64)))) p56) fun (v57 : (Int × (Int × Int))) =>
  bnd (newC 71 [.int .i64 (0 : Int), .int .i64 (0 : Int), .int .i64 (0 : Int)]) fun (p58 : Addr) =>
  bnd (wrs p58 0 [.int .i64 v57.1, .int .i64 v57.2.1, .int .i64 v57.2.2]) fun _ =>
  bnd (ld .sl s1) fun (v59 : Sl) =>
  bnd (ld (.int .i64) (Addr.add p58 0)) fun (v60 : Int) =>
  bnd (ld (.int .i64) (Addr.add p58 2)) fun (v61 : Int) =>
  bnd (runV Try.prog .sl (Instr.buildSlice 31 2 #[(0, .int .i64 v60), (1, .int .i64 v61)])) fun (v62 : Sl) =>
  bnd (runV Try.prog .sl (Builtin.append_ #[31, 31] 31 #[.slice v59.a v59.len v59.cap, .slice v62.a v62.len v62.cap])) fun (v63 : Sl) =>
  bnd (wrs s1 0 [.slice v63.a v63.len v63.cap]) fun _ =>
  ret (Sum.inl (IntKind.wrap .i64 (s55 + (1 : Int))))) (
  bnd (
  bnd (drf x0) fun (p64 : Addr) =>
  bnd (ld (.agg (.pair (.int .i64) (.pair (.int .i64) (.pair (.int .i64) (.pair (.int .i64) (.pair (.int .i64) (.pair (.int .i64) (.pair (.int .i64) (.pair (.int .i64) (.pair (.int .i64) (.pair (.int .i64) (.pair (.int .i64) (.pair (.int .i64) (.pair (.int .i64) (.pair (.int .i64) (.pair (.int .i64) (.pair (.int .i64) (.pair (.int .i64) (.pair (.int .i64) (.pair (.int .i64) (.pair (.int .i64) (.pair (.int .i64) (.pair (.int .i64) (.pair (.int .i64) (.pair (.int .i64) (.pair (.int .i64) (.pair (.int .i64) (.pair (.int .i64) (.pair (.int .i64) (.pair (.int .i64) (.pair (.int .i64) (.pair (.int .i64) (.pair (.int .i64) (.pair (.int .i64) (.pair (.int .i64) (.pair (.int .i64) (.pair (.int .i64) (.pair (.int .i64) (.pair (.int .i64) (.pair (.int .i64) (.pair (.int .i64) (.pair (.int .i64) (.pair (.int .i64) (.pair (.int .i64) (.pair (.int .i64) (.pair (.int .i64) (.pair (.int .i64) (.pair (.int .i64) (.pair (.int .i64) (.pair (.int .i64) (.pair (.int .i64) (.pair (.int .i64) (.pair (.int .i64) (.pair (.int .i64) (.pair (.int .i64) (.pair (.int .i64) (.pair (.int .i64) (.pair (.int .i64) (.pair (.int .i64) (.pair (.int .i64) (.pair (.int .i64) (.pair (.int .i64) (.pair (.int .i64) (.pair (.int .i64) (.int .i64))))))))))))))))))))))))))))))))))))))))))))))))))))))))))))))))) (Addr.add p64 23)) fun (v65 : (Int × (Int × (Int × (Int × (Int × (Int × (Int × (Int × (Int × (Int × (Int × (Int × (Int × (Int × (Int × (Int × (Int × (Int × (Int × (Int × (Int × (Int × (Int × (Int × (Int × (Int × (Int × (Int × (Int × (Int × (Int × (Int × (Int × (Int × (Int × (Int × (Int × (Int × (Int × (Int × (Int × (Int × (Int × (Int × (Int × (Int × (Int × (Int × (Int × (Int × (Int × (Int × (Int × (Int × (Int × (Int × (Int × (Int × (Int × (Int × (Int × (Int × (Int × Int)))))))))))))))))))))))))))))))))))))))))))))))))))))))))))))))) =>
  loopM (fun (s66 : (Sl × Int)) =>
  cnd (decide (s66.2 < (64 : Int))) (
  bnd (ixG (.int .i64) [.int .i64 v65.1, .int .i64 v65.2.1, .int .i64 v65.2.2.1, .int .i64 v65.2.2.2.1, .int .i64 v65.2.2.2.2.1, .int .i64 v65.2.2.2.2.2.1, .int .i64 v65.2.2.2.2.2.2.1, .int .i64 v65.2.2.2.2.2.2.2.1, .int .i64 v65.2.2.2.2.2.2.2.2.1, .int .i64 v65.2.2.2.2.2.2.2.2.2.1, .int .i64 v65.2.2.2.2.2.2.2.2.2.2.1, .int .i64 v65.2.2.2.2.2.2.2.2.2.2.2.1, .int .i64 v65.2.2.2.2.2.2.2.2.2.2.2.2.1, .int .i64 v65.2.2.2.2.2.2.2.2.2.2.2.2.2.1, .int .i64 v65.2.2.2.2.2.2.2.2.2.2.2.2.2.2.1, .int .i64 v65.2.2.2.2.2.2.2.2.2.2.2.2.2.2.2.1, .int .i64 v65.2.2.2.2.2.2.2.2.2.2.2.2.2.2.2.2.1, .int .i64 v65.2.2.2.2.2.2.2.2.2.2.2.2.2.2.2.2.2.1, .int .i64 v65.2.2.2.2.2.2.2.2.2.2.2.2.2.2.2.2.2.2.1, .int .i64 v65.2.2.2.2.2.2.2.2.2.2.2.2.2.2.2.2.2.2.2.1, .int .i64 v65.2.2.2.2.2.2.2.2.2.2.2.2.2.2.2.2.2.2.2.2.1, .int .i64 v65.2.2.2.2.2.2.2.2.2.2.2.2.2.2.2.2.2.2.2.2.2.1, .int .i64 v65.2.2.2.2.2.2.2.2.2.2.2.2.2.2.2.2.2.2.2.2.2.2.1, .int .i64 v65.2.2.2.2.2.2.2.2.2.2.2.2.2.2.2.2.2.2.2.2.2.2.2.1, .int .i64 v65.2.2.2.2.2.2.2.2.2.2.2.2.2.2.2.2.2.2.2.2.2.2.2.2.1, .int .i64 v65.2.2.2.2.2.2.2.2.2.2.2.2.2.2.2.2.2.2.2.2.2.2.2.2.2.1, .int .i64 v65.2.2.2.2.2.2.2.2.2.2.2.2.2.2.2.2.2.2.2.2.2.2.2.2.2.2.1, .int .i64 v65.2.2.2.2.2.2.2.2.2.2.2.2.2.2.2.2.2.2.2.2.2.2.2.2.2.2.2.1, .int .i64 v65.2.2.2.2.2.2.2.2.2.2.2.2.2.2.2.2.2.2.2.2.2.2.2.2.2.2.2.2.1, .int .i64 v65.2.2.2.2.2.2.2.2.2.2.2.2.2.2.2.2.2.2.2.2.2.2.2.2.2.2.2.2.2.1, .int .i64 v65.2.2.2.2.2.2.2.2.2.2.2.2.2.2.2.2.2.2.2.2.2.2.2.2.2.2.2.2.2.2.1, .int .i64 v65.2.2.2.2.2.2.2.2.2.2.2.2.2.2.2.2.2.2.2.2.2.2.2.2.2.2.2.2.2.2.2.1, .int .i64 v65.2.2.2.2.2.2.2.2.2.2.2.2.2.2.2.2.2.2.2.2.2.2.2.2.2.2.2.2.2.2.2.2.1, .int .i64 v65.2.2.2.2.2.2.2.2.2.2.2.2.2.2.2.2.2.2.2.2.2.2.2.2.2.2.2.2.2.2.2.2.2.1, .int .i64 v65.2.2.2.2.2.2.2.2.2.2.2.2.2.2.2.2.2.2.2.2.2.2.2.2.2.2.2.2.2.2.2.2.2.2.1, .int .i64 v65.2.2.2.2.2.2.2.2.2.2.2.2.2.2.2.2.2.2.2.2.2.2.2.2.2.2.2.2.2.2.2.2.2.2.2.1, .int .i64 v65.2.2.2.2.2.2.2.2.2.2.2.2.2.2.2.2.2.2.2.2.2.2.2.2.2.2.2.2.2.2.2.2.2.2.2.2.1, .int .i64 v65.2.2.2.2.2.2.2.2.2.2.2.2.2.2.2.2.2.2.2.2.2.2.2.2.2.2.2.2.2.2.2.2.2.2.2.2.2.1, .int .i64 v65.2.2.2.2.2.2.2.2.2.2.2.2.2.2.2.2.2.2.2.2.2.2.2.2.2.2.2.2.2.2.2.2.2.2.2.2.2.2.1, .int .i64 v65.2.2.2.2.2.2.2.2.2.2.2.2.2.2.2.2.2.2.2.2.2.2.2.2.2.2.2.2.2.2.2.2.2.2.2.2.2.2.2.1, .int .i64 v65.2.2.2.2.2.2.2.2.2.2.2.2.2.2.2.2.2.2.2.2.2.2.2.2.2.2.2.2.2.2.2.2.2.2.2.2.2.2.2.2.1, .int .i64 v65.2.2.2.2.2.2.2.2.2.2.2.2.2.2.2.2.2.2.2.2.2.2.2.2.2.2.2.2.2.2.2.2.2.2.2.2.2.2.2.2.2.1, .int .i64 v65.2.2.2.2.2.2.2.2.2.2.2.2.2.2.2.2.2.2.2.2.2.2.2.2.2.2.2.2.2.2.2.2.2.2.2.2.2.2.2.2.2.2.1, .int .i64 v65.2.2.2.2.2.2.2.2.2.2.2.2.2.2.2.2.2.2.2.2.2.2.2.2.2.2.2.2.2.2.2.2.2.2.2.2.2.2.2.2.2.2.2.1, .int .i64 v65.2.2.2.2.2.2.2.2.2.2.2.2.2.2.2.2.2.2.2.2.2.2.2.2.2.2.2.2.2.2.2.2.2.2.2.2.2.2.2.2.2.2.2.2.1, .int .i64 v65.2.2.2.2.2.2.2.2.2.2.2.2.2.2.2.2.2.2.2.2.2.2.2.2.2.2.2.2.2.2.2.2.2.2.2.2.2.2.2.2.2.2.2.2.2.1, .int .i64 v65.2.2.2.2.2.2.2.2.2.2.2.2.2.2.2.2.2.2.2.2.2.2.2.2.2.2.2.2.2.2.2.2.2.2.2.2.2.2.2.2.2.2.2.2.2.2.1, .int .i64 v65.2.2.2.2.2.2.2.2.2.2.2.2.2.2.2.2.2.2.2.2.2.2.2.2.2.2.2.2.2.2.2.2.2.2.2.2.2.2.2.2.2.2.2.2.2.2.2.1, .int .i64 v65.2.2.2.2.2.2.2.2.2.2.2.2.2.2.2.2.2.2.2.2.2.2.2.2.2.2.2.2.2.2.2.2.2.2.2.2.2.2.2.2.2.2.2.2.2.2.2.2.1, .int .i64 v65.2.2.2.2.2.2.2.2.2.2.2.2.2.2.2.2.2.2.2.2.2.2.2.2.2.2.2.2.2.2.2.2.2.2.2.2.2.2.2.2.2.2.2.2.2.2.2.2.2.1, .int .i64 v65.2.2.2.2.2.2.2.2.2.2.2.2.2.2.2.2.2.2.2.2.2.2.2.2.2.2.2.2.2.2.2.2.2.2.2.2.2.2.2.2.2.2.2.2.2.2.2.2.2.2.1, .int .i64 v65.2.2.2.2.2.2.2.2.2.2.2.2.2.2.2.2.2.2.2.2.2.2.2.2.2.2.2.2.2.2.2.2.2.2.2.2.2.2.2.2.2.2.2.2.2.2.2.2.2.2.2.1, .int .i64 v65.2.2.2.2.2.2.2.2.2.2.2.2.2.2.2.2.2.2.2.2.2.2.2.2.2.2.2.2.2.2.2.2.2.2.2.2.2.2.2.2.2.2.2.2.2.2.2.2.2.2.2.2.1, .int .i64 v65.2.2.2.2.2.2.2.2.2.2.2.2.2.2.2.2.2.2.2.2.2.2.2.2.2.2.2.2.2.2.2.2.2.2.2.2.2.2.2.2.2.2.2.2.2.2.2.2.2.2.2.2.2.1, .int .i64 v65.2.2.2.2.2.2.2.2.2.2.2.2.2.2.2.2.2.2.2.2.2.2.2.2.2.2.2.2.2.2.2.2.2.2.2.2.2.2.2.2.2.2.2.2.2.2.2.2.2.2.2.2.2.2.1, .int .i64 v65.2.2.2.2.2.2.2.2.2.2.2.2.2.2.2.2.2.2.2.2.2.2.2.2.2.2.2.2.2.2.2.2.2.2.2.2.2.2.2.2.2.2.2.2.2.2.2.2.2.2.2.2.2.2.2.1, .int .i64 v65.2.2.2.2.2.2.2.2.2.2.2.2.2.2.2.2.2.2.2.2.2.2.2.2.2.2.2.2.2.2.2.2.2.2.2.2.2.2.2.2.2.2.2.2.2.2.2.2.2.2.2.2.2.2.2.2.1, .int .i64 v65.2.2.2.2.2.2.2.2.2.2.2.2.2.2.2.2.2.2.2.2.2.2.2.2.2.2.2.2.2.2.2.2.2.2.2.2.2.2.2.2.2.2.2.2.2.2.2.2.2.2.2.2.2.2.2.2.2.1, .int .i64 v65.2.2.2.2.2.2.2.2.2.2.2.2.2.2.2.2.2.2.2.2.2.2.2.2.2.2.2.2.2.2.2.2.2.2.2.2.2.2.2.2.2.2.2.2.2.2.2.2.2.2.2.2.2.2.2.2.2.2.1, .int .i64 v65.2.2.2.2.2.2.2.2.2.2.2.2.2.2.2.2.2.2.2.2.2.2.2.2.2.2.2.2.2.2.2.2.2.2.2.2.2.2.2.2.2.2.2.2.2.2.2.2.2.2.2.2.2.2.2.2.2.2.2.1, .int .i64 v65.2.2.2.2.2.2.2.2.2.2.2.2.2.2.2.2.2.2.2.2.2.2.2.2.2.2.2.2.2.2.2.2.2.2.2.2.2.2.2.2.2.2.2.2.2.2.2.2.2.2.2.2.2.2.2.2.2.2.2.2.1, .int .i64 v65.2.2.2.2.2.2.2.2.2.2.2.2.2.2.2.2.2.2.2.2.2.2.2.2.2.2.2.2.2.2.2.2.2.2.2.2.2.2.2.2.2.2.2.2.2.2.2.2.2.2.2.2.2.2.2.2.2.2.2.2.2.1, .int .i64 v65.2.2.2.2.2.2.2.2.2.2.2.2.2.2.2.2.2.2.2.2.2.2.2.2.2.2.2.2.2.2.2.2.2.2.2.2.2.2.2.2.2.2.2.2.2.2.2.2.2.2.2.2.2.2.2.2.2.2.2.2.2.2.1, .int .i64 v65.2.2.2.2.2.2.2.2.2.2.2.2.2.2.2.2.2.2.2.2.2.2.2.2.2.2.2.2.2.2.2.2.2.2.2.2.2.2.2.2.2.2.2.2.2.2.2.2.2.2.2.2.2.2.2.2.2.2.2.2.2.2.2] 64 s66.2) fun (v67 : Int) =>
  bnd (
  cnd (decide (v67 > (0 : Int))) (
  bnd (runV Try.prog .sl (Instr.buildSlice 31 2 #[(0, .int .i64 s66.2), (1, .int .i64 v67)])) fun (v69 : Sl) =>
  bnd (runV Try.prog .sl (Builtin.append_ #[31, 31] 31 #[.slice s66.1.a s66.1.len s66.1.cap, .slice v69.a v69.len v69.cap])) fun (v70 : Sl) =>
  ret v70) (
  ret s66.1)) fun (s68 : Sl) =>
  ret (Sum.inl (s68, (IntKind.wrap .i64 (s66.2 + (1 : Int)))))) (
  bnd (
  bnd (ld .sl s1) fun (v71 : Sl) =>
  bnd (runV Try.prog .sl (Instr.buildSlice 31 1 #[(0, .int .i64 (IntKind.wrap .i64 (Int.tdiv (s66.1.len : Int) (2 : Int))))])) fun (v72 : Sl) =>
  bnd (runV Try.prog .sl (Builtin.append_ #[31, 31] 31 #[.slice v71.a v71.len v71.cap, .slice v72.a v72.len v72.cap])) fun (v73 : Sl) =>
  bnd (wrs s1 0 [.slice v73.a v73.len v73.cap]) fun _ =>
  bnd (ld .sl s1) fun (v74 : Sl) =>
  bnd (runV Try.prog .sl (Builtin.append_ #[31, 31] 31 #[.slice v74.a v74.len v74.cap, .slice s66.1.a s66.1.len s66.1.cap])) fun (v75 : Sl) =>
  ret v75) fun r76 =>
  ret (Sum.inr r76))) ((Sl.mk none 0 0), (0 : Int))) fun r77 =>
  ret (Sum.inr r77))) (0 : Int)) fun r78 =>
  ret (Sum.inr r78))) (1 : Int)) fun r79 =>
  ret (Sum.inr r79))) (0 : Int)) fun r80 =>
  ret (Sum.inr r80))) (0 : Int)
noncomputable def Af16_sched_Sched_State : Ann := (.two .nil (.two (.join [(3, .adr)] [16, 17, 18, 19, 20, 21, 22, 23, 24, 25, 26, 27, 28, 29] false (.ord 16 [(0, 65534), (1, 65532), (2, 65529), (4, 65523), (0, 65519), (16, 65487), (32, 65439), (64, 65343), (0, 65279), (256, 64767), (512, 63999), (1024, 62463), (2048, 59391), (4232, 53111), (0, 49151), (32767, 8191)] (.o 0 (.o 1 (.o 2 (.o 3 (.o 4 (.o 5 (.o 6 (.o 7 (.o 8 (.o 9 (.o 10 (.o 11 (.o 12 (.f 13 14 (.o 14 (.o 15 .done)) (.o 13 (.o 15 .done)))))))))))))))))) (.two (.two .nil (.one (.loop [(35, (.int .i64))] [5, 36, 37, 38, 39, 40, 41, 42, 43, 44, 45, 46, 47] (.two .nil (.two (.two .nil .nil) (.two (.one (.two .nil .nil)) .nil)))))) (.two .nil (.two (.join [] [49, 50, 51, 52, 53, 54, 55, 56] false (.ord 16 [(0, 510), (0, 509), (2, 505), (4, 499), (8, 487), (16, 463), (32, 415), (65, 318), (255, 127)] (.o 0 (.o 1 (.o 2 (.o 3 (.o 4 (.o 5 (.o 6 (.o 7 (.o 8 .done))))))))))) (.two (.two .nil (.one (.loop [(62, (.int .i64))] [8, 63, 64, 65, 66, 67, 68, 69, 70, 71, 72, 73, 74, 75] (.two .nil (.two (.two .nil .nil) (.two (.one (.two .nil (.two .nil .nil))) .nil)))))) (.two (.two .nil (.one (.loop [(9, (.int .i64))] [76, 77, 78, 79, 80, 81, 82, 83, 84, 85, 86, 87] (.two (.two .nil (.two .nil .nil)) (.two (.one .nil) .nil))))) (.two .nil (.two .nil (.two .nil (.two (.two .nil (.one (.loop [(102, (.int .i64))] [12, 103, 104, 105, 106, 107, 108, 109, 110, 111, 112, 113] (.two .nil (.two (.two .nil .nil) (.two (.one (.two .nil .nil)) .nil)))))) (.two .nil (.two (.two .nil (.one (.loop [(13, .sl), (118, (.int .i64))] [14, 15, 119, 120, 121, 122, 123, 124, 125, 126, 127, 128, 129] (.two .nil (.two (.two .nil .nil) (.two (.one (.two .nil (.two .nil (.join [(13, .sl)] [124, 125, 126, 127, 128] false (.two .nil .nil))))) .nil)))))) (.two .nil (.two .nil .nil)))))))))))))))
theorem Cf16_sched_Sched_State_ok : Cf16_sched_Sched_State.Ok := mkC_ok mixed tysOk zerosOk eqsOk ⟨Sf35_sched_Sched_State_1, Sf36_Clonetm, Sf37_SortFunc, trivial⟩ trivial
theorem Ef16_sched_Sched_State (x : Option Addr) : evF Cf16_sched_Sched_State Try.f16 139 .ptr .sl Af16_sched_Sched_State x = f16_sched_Sched_State x := by kernel_rfl
theorem Sf16_sched_Sched_State : SoundF Try.prog 16 ⟨.ptr, .sl, fun x => f16_sched_Sched_State x⟩ :=
  soundF_of Cf16_sched_Sched_State_ok Try.func16 (by kernel_rfl) (by kernel_rfl) Ef16_sched_Sched_State
noncomputable def Cf56_sched_Sched_read_2_1 : Ctx := mkC Try.prog tys zeros eqs [(52, ⟨(.pair .ptr (.pair (.int .i64) (.int .i64))), (.int .i64), fun x => f52_sched_reader_next x.1 x.2.1 x.2.2⟩)] []
/-- (*palaversched.Sched).read$2$1 -/
noncomputable def f56_sched_Sched_read_2_1 (x0 : Int) (x1 : Addr) (x2 : Addr) (x3 : Addr) : M Unit :=
  bnd (
  bnd (ordM 56 0 (regionIn 0 Try.f56)) fun (o2 : List Nat) =>
  bnd (ld .sl x1) fun (v3 : Sl) =>
  bnd (ld .ptr x2) fun (v4 : Option Addr) =>
  bnd (ld .ptr x3) fun (v5 : Option Addr) =>
  bnd (drf v5) fun (p6 : Addr) =>
  bnd (ld .sl (Addr.add p6 2)) fun (v7 : Sl) =>
  bnd (f52_sched_reader_next v4 (1 : Int) (v7.len : Int)) fun (r8 : Int) =>
  bnd (
  bnd (chk .sl (Addr.add p6 2) v7) fun _ =>
  bnd (chk .ptr x3 v5) fun _ =>
  bnd (chk .sl x1 v3) fun _ =>
  ret ()) fun _ =>
  bnd (runV Try.prog .sl (Instr.buildSlice 31 1 #[(0, .int .i64 r8)])) fun (v9 : Sl) =>
  bnd (
  bnd (chk .sl (Addr.add p6 2) v7) fun _ =>
  bnd (chk .ptr x3 v5) fun _ =>
  bnd (chk .sl x1 v3) fun _ =>
  ret ()) fun _ =>
  bnd (runV Try.prog .sl (Builtin.append_ #[31, 31] 31 #[.slice v3.a v3.len v3.cap, .slice v9.a v9.len v9.cap])) fun (v10 : Sl) =>
  bnd (
  bnd (chk .sl (Addr.add p6 2) v7) fun _ =>
  bnd (chk .ptr x3 v5) fun _ =>
  ret ()) fun _ =>
  bnd (wrs x1 0 [.slice v10.a v10.len v10.cap]) fun _ =>
  bnd (ret ()) fun _ =>
  ret ()) fun (s1 : Unit) =>
  ret ()
noncomputable def Af56_sched_Sched_read_2_1 : Ann := (.join [] [5, 6, 7, 8, 9, 10, 11, 12, 13, 14] false (.ord 56 [(0, 2046), (0, 2045), (0, 2043), (4, 2035), (8, 2023), (16, 1999), (32, 1951), (66, 1853), (128, 1663), (385, 1278), (1023, 511)] (.o 0 (.o 1 (.o 2 (.o 3 (.o 4 (.o 5 (.o 6 (.o 7 (.o 8 (.o 9 (.o 10 .done)))))))))))))
theorem Cf56_sched_Sched_read_2_1_ok : Cf56_sched_Sched_read_2_1.Ok := mkC_ok mixed tysOk zerosOk eqsOk ⟨Sf52_sched_reader_next, trivial⟩ trivial
theorem Ef56_sched_Sched_read_2_1 (x : (Int × (Addr × (Addr × Addr)))) : evF Cf56_sched_Sched_read_2_1 Try.f56 15 (.pair (.int .i64) (.pair .adr (.pair .adr .adr))) (.tup .unit) Af56_sched_Sched_read_2_1 x = f56_sched_Sched_read_2_1 x.1 x.2.1 x.2.2.1 x.2.2.2 := by kernel_rfl
theorem Sf56_sched_Sched_read_2_1 : SoundF Try.prog 56 ⟨(.pair (.int .i64) (.pair .adr (.pair .adr .adr))), (.tup .unit), fun x => f56_sched_Sched_read_2_1 x.1 x.2.1 x.2.2.1 x.2.2.2⟩ :=
  soundF_of Cf56_sched_Sched_read_2_1_ok Try.func56 (by kernel_rfl) (by kernel_rfl) Ef56_sched_Sched_read_2_1
noncomputable def Cf53e_many : Ctx := mkC Try.prog tys zeros eqs [(52, ⟨(.pair .ptr (.pair (.int .i64) (.int .i64))), (.int .i64), fun x => f52_sched_reader_next x.1 x.2.1 x.2.2⟩), (56, ⟨(.pair (.int .i64) (.pair .adr (.pair .adr .adr))), (.tup .unit), fun x => f56_sched_Sched_read_2_1 x.1 x.2.1 x.2.2.1 x.2.2.2⟩)] []
/-- (*palaversched.reader).many -/
noncomputable def f53e_many (x0 : Option Addr) (x1 : Int) (x2 : (Addr × (Addr × Addr))) : M Unit :=
  bnd (f52_sched_reader_next x0 (0 : Int) x1) fun (r1 : Int) =>
  loopM (fun (s2 : Int) =>
  bnd (
  cnd (decide (s2 < r1)) (
  bnd (drf x0) fun (p3 : Addr) =>
  bnd (ld .bool (Addr.add p3 1)) fun (v4 : Bool) =>
  ret (!v4)) (
  ret false)) fun (b5 : Bool) =>
  cnd b5 (
  bnd (f56_sched_Sched_read_2_1 s2 x2.1 x2.2.1 x2.2.2) fun (r6 : Unit) =>
  ret (Sum.inl (IntKind.wrap .i64 (s2 + (1 : Int))))) (
  ret (Sum.inr ()))) (0 : Int)
noncomputable def Af53e_many : Ann := (.two .nil (.two .nil (.one (.loop [(7, (.int .i64))] [11, 12, 13, 14, 15, 16, 17, 18, 19, 20, 21, 22, 23, 24, 25] (.two (.two .nil (.two .nil .nil)) (.two (.one .nil) .nil))))))
theorem Cf53e_many_ok : Cf53e_many.Ok := mkC_ok mixed tysOk zerosOk eqsOk ⟨Sf52_sched_reader_next, Sf56_sched_Sched_read_2_1, trivial⟩ trivial
theorem Ef53e_many (x : (Option Addr × (Int × (Addr × (Addr × Addr))))) : evF Cf53e_many Try.f53 26 (.pair .ptr (.pair (.int .i64) (.clo 56 (.pair .adr (.pair .adr .adr))))) (.tup .unit) Af53e_many x = f53e_many x.1 x.2.1 x.2.2 := by kernel_rfl
theorem Sf53e_many : SoundF Try.prog 53 ⟨(.pair .ptr (.pair (.int .i64) (.clo 56 (.pair .adr (.pair .adr .adr))))), (.tup .unit), fun x => f53e_many x.1 x.2.1 x.2.2⟩ :=
  soundF_of Cf53e_many_ok Try.func53 (by kernel_rfl) (by kernel_rfl) Ef53e_many
noncomputable def Cf55_sched_Sched_read_2 : Ctx := mkC Try.prog tys zeros eqs [(53, ⟨(.pair .ptr (.pair (.int .i64) (.clo 56 (.pair .adr (.pair .adr .adr))))), (.tup .unit), fun x => f53e_many x.1 x.2.1 x.2.2⟩)] []
/-- (*palaversched.Sched).read$2 -/
noncomputable def f55_sched_Sched_read_2 (x0 : Addr) (x1 : Addr) : M Sl :=
  bnd (newC 31 [.slice none 0 0]) fun (p1 : Addr) =>
  bnd (
  bnd (ordM 55 1 (regionIn 1 Try.f55)) fun (o3 : List Nat) =>
  bnd (ld .ptr x0) fun (v4 : Option Addr) =>
  bnd (ld .ptr x1) fun (v5 : Option Addr) =>
  bnd (drf v5) fun (p6 : Addr) =>
  bnd (ld .sl (Addr.add p6 2)) fun (v7 : Sl) =>
  bnd (f53e_many v4 (v7.len : Int) (p1, x0, x1)) fun (r8 : Unit) =>
  bnd (
  bnd (chk .sl (Addr.add p6 2) v7) fun _ =>
  bnd (chk .ptr x1 v5) fun _ =>
  ret ()) fun _ =>
  ret ()) fun (s2 : Unit) =>
  bnd (ld .sl p1) fun (v9 : Sl) =>
  bnd (wrs p1 0 [.slice v9.a v9.len v9.cap]) fun _ =>
  bnd (ld .sl p1) fun (v10 : Sl) =>
  ret v10
noncomputable def Af55_sched_Sched_read_2 : Ann := (.two .nil (.two (.join [] [3, 4, 5, 6, 7, 8, 9, 10] false (.ord 55 [(0, 254), (0, 253), (2, 249), (4, 243), (8, 231), (16, 207), (0, 191), (97, 30)] (.o 0 (.o 1 (.o 2 (.o 3 (.o 4 (.o 5 (.o 6 (.o 7 .done)))))))))) (.two .nil .nil)))
theorem Cf55_sched_Sched_read_2_ok : Cf55_sched_Sched_read_2.Ok := mkC_ok mixed tysOk zerosOk eqsOk ⟨Sf53e_many, trivial⟩ trivial
theorem Ef55_sched_Sched_read_2 (x : (Addr × Addr)) : evF Cf55_sched_Sched_read_2 Try.f55 12 (.pair .adr .adr) .sl Af55_sched_Sched_read_2 x = f55_sched_Sched_read_2 x.1 x.2 := by kernel_rfl
theorem Sf55_sched_Sched_read_2 : SoundF Try.prog 55 ⟨(.pair .adr .adr), .sl, fun x => f55_sched_Sched_read_2 x.1 x.2⟩ :=
  soundF_of Cf55_sched_Sched_read_2_ok Try.func55 (by kernel_rfl) (by kernel_rfl) Ef55_sched_Sched_read_2
noncomputable def Cf54_sched_Sched_read_1 : Ctx := mkC Try.prog tys zeros eqs [(52, ⟨(.pair .ptr (.pair (.int .i64) (.int .i64))), (.int .i64), fun x => f52_sched_reader_next x.1 x.2.1 x.2.2⟩)] []
/-- (*palaversched.Sched).read$1 -/
noncomputable def f54_sched_Sched_read_1 (x0 : Int) (x1 : Addr) (x2 : Addr) : M Unit :=
  bnd (ld .ptr x1) fun (v1 : Option Addr) =>
  bnd (f52_sched_reader_next v1 (1 : Int) (16 : Int)) fun (r2 : Int) =>
  bnd (
  bnd (ordM 54 1 (regionIn 1 Try.f54)) fun (o4 : List Nat) =>
  bnd (ld .ptr x2) fun (v5 : Option Addr) =>
  bnd (ld .ptr x2) fun (v6 : Option Addr) =>
  bnd (drf v6) fun (p7 : Addr) =>
  bnd (ld .sl (Addr.add p7 2)) fun (v8 : Sl) =>
  bnd (ld .ptr x1) fun (v9 : Option Addr) =>
  bnd (f52_sched_reader_next v9 (1 : Int) (5 : Int)) fun (r10 : Int) =>
  bnd (
  bnd (chk .sl (Addr.add p7 2) v8) fun _ =>
  bnd (chk .ptr x2 v6) fun _ =>
  bnd (chk .ptr x2 v5) fun _ =>
  ret ()) fun _ =>
  bnd (runV Try.prog .sl (Instr.buildSlice 49 1 #[(0, .agg #[.int .i64 r2, .int .u8 (IntKind.wrap .u8 r10), .int .i64 (0 : Int)])])) fun (v11 : Sl) =>
  bnd (
  bnd (chk .sl (Addr.add p7 2) v8) fun _ =>
  bnd (chk .ptr x2 v6) fun _ =>
  bnd (chk .ptr x2 v5) fun _ =>
  ret ()) fun _ =>
  bnd (runV Try.prog .sl (Builtin.append_ #[49, 49] 49 #[.slice v8.a v8.len v8.cap, .slice v11.a v11.len v11.cap])) fun (v12 : Sl) =>
  bnd (
  bnd (chk .ptr x2 v6) fun _ =>
  bnd (chk .ptr x2 v5) fun _ =>
  ret ()) fun _ =>
  bnd (drf v5) fun (p13 : Addr) =>
  bnd (wrs (Addr.add p13 2) 0 [.slice v12.a v12.len v12.cap]) fun _ =>
  bnd (ret ()) fun _ =>
  ret ()) fun (s3 : Unit) =>
  ret ()
noncomputable def Af54_sched_Sched_read_1 : Ann := (.two .nil (.join [] [7, 8, 9, 10, 11, 12, 13, 14, 15, 16, 17, 18, 19, 20] false (.ord 54 [(0, 32766), (0, 32765), (2, 32761), (4, 32755), (8, 32743), (0, 32735), (0, 32703), (64, 32575), (128, 32383), (288, 31967), (512, 31231), (1168, 29679), (4095, 28670), (8191, 20479), (12287, 6143)] (.o 0 (.o 1 (.o 2 (.o 3 (.o 4 (.o 5 (.o 6 (.o 7 (.o 8 (.o 9 (.o 10 (.o 11 (.o 12 (.o 13 (.o 14 .done))))))))))))))))))
theorem Cf54_sched_Sched_read_1_ok : Cf54_sched_Sched_read_1.Ok := mkC_ok mixed tysOk zerosOk eqsOk ⟨Sf52_sched_reader_next, trivial⟩ trivial
theorem Ef54_sched_Sched_read_1 (x : (Int × (Addr × Addr))) : evF Cf54_sched_Sched_read_1 Try.f54 21 (.pair (.int .i64) (.pair .adr .adr)) (.tup .unit) Af54_sched_Sched_read_1 x = f54_sched_Sched_read_1 x.1 x.2.1 x.2.2 := by kernel_rfl
theorem Sf54_sched_Sched_read_1 : SoundF Try.prog 54 ⟨(.pair (.int .i64) (.pair .adr .adr)), (.tup .unit), fun x => f54_sched_Sched_read_1 x.1 x.2.1 x.2.2⟩ :=
  soundF_of Cf54_sched_Sched_read_1_ok Try.func54 (by kernel_rfl) (by kernel_rfl) Ef54_sched_Sched_read_1
noncomputable def Cf57_sched_Sched_read_3 : Ctx := mkC Try.prog tys zeros eqs [(52, ⟨(.pair .ptr (.pair (.int .i64) (.int .i64))), (.int .i64), fun x => f52_sched_reader_next x.1 x.2.1 x.2.2⟩), (55, ⟨(.pair .adr .adr), .sl, fun x => f55_sched_Sched_read_2 x.1 x.2⟩)] []
/-- (*palaversched.Sched).read$3 -/
noncomputable def f57_sched_Sched_read_3 (x0 : Int) (x1 : Addr) (x2 : Addr) (x3 : Addr) : M Unit :=
  bnd (ld .ptr x1) fun (v1 : Option Addr) =>
  bnd (f52_sched_reader_next v1 (0 : Int) (1073741824 : Int)) fun (r2 : Int) =>
  bnd (newC 66 [.int .i64 (0 : Int), .slice none 0 0]) fun (p3 : Addr) =>
  bnd (wrs p3 0 [.int .i64 r2, .slice none 0 0]) fun _ =>
  bnd (ld (.clo 55 (.pair .adr .adr)) x2) fun (v4 : (Addr × Addr)) =>
  bnd (f55_sched_Sched_read_2 v4.1 v4.2) fun (r5 : Sl) =>
  bnd (wrs (Addr.add p3 1) 0 [.slice r5.a r5.len r5.cap]) fun _ =>
  bnd (
  bnd (ordM 57 2 (regionIn 2 Try.f57)) fun (o7 : List Nat) =>
  bnd (ld .ptr x3) fun (v8 : Option Addr) =>
  bnd (ld .ptr x3) fun (v9 : Option Addr) =>
  bnd (drf v9) fun (p10 : Addr) =>
  bnd (ld .sl (Addr.add p10 3)) fun (v11 : Sl) =>
  bnd (ld (.agg (.pair (.int .i64) .sl)) p3) fun (v12 : (Int × Sl)) =>
  bnd (runV Try.prog .sl (Instr.buildSlice 50 1 #[(0, .agg #[.int .i64 v12.1, .slice v12.2.a v12.2.len v12.2.cap])])) fun (v13 : Sl) =>
  bnd (
  bnd (chk .sl (Addr.add p10 3) v11) fun _ =>
  bnd (chk .ptr x3 v9) fun _ =>
  bnd (chk .ptr x3 v8) fun _ =>
  ret ()) fun _ =>
  bnd (runV Try.prog .sl (Builtin.append_ #[50, 50] 50 #[.slice v11.a v11.len v11.cap, .slice v13.a v13.len v13.cap])) fun (v14 : Sl) =>
  bnd (
  bnd (chk .ptr x3 v9) fun _ =>
  bnd (chk .ptr x3 v8) fun _ =>
  ret ()) fun _ =>
  bnd (drf v8) fun (p15 : Addr) =>
  bnd (wrs (Addr.add p15 3) 0 [.slice v14.a v14.len v14.cap]) fun _ =>
  bnd (ret ()) fun _ =>
  ret ()) fun (s6 : Unit) =>
  ret ()
noncomputable def Af57_sched_Sched_read_3 : Ann := (.two .nil (.two .nil (.join [] [12, 13, 14, 15, 16, 17, 18, 19, 20, 21] false (.ord 57 [(0, 2046), (0, 2045), (2, 2041), (4, 2035), (8, 2023), (0, 2015), (32, 1951), (80, 1839), (255, 1790), (511, 1279), (767, 383)] (.o 0 (.o 1 (.o 2 (.o 3 (.o 4 (.o 5 (.o 6 (.o 7 (.o 8 (.o 9 (.o 10 .done)))))))))))))))
theorem Cf57_sched_Sched_read_3_ok : Cf57_sched_Sched_read_3.Ok := mkC_ok mixed tysOk zerosOk eqsOk ⟨Sf52_sched_reader_next, Sf55_sched_Sched_read_2, trivial⟩ trivial
theorem Ef57_sched_Sched_read_3 (x : (Int × (Addr × (Addr × Addr)))) : evF Cf57_sched_Sched_read_3 Try.f57 22 (.pair (.int .i64) (.pair .adr (.pair .adr .adr))) (.tup .unit) Af57_sched_Sched_read_3 x = f57_sched_Sched_read_3 x.1 x.2.1 x.2.2.1 x.2.2.2 := by kernel_rfl
theorem Sf57_sched_Sched_read_3 : SoundF Try.prog 57 ⟨(.pair (.int .i64) (.pair .adr (.pair .adr .adr))), (.tup .unit), fun x => f57_sched_Sched_read_3 x.1 x.2.1 x.2.2.1 x.2.2.2⟩ :=
  soundF_of Cf57_sched_Sched_read_3_ok Try.func57 (by kernel_rfl) (by kernel_rfl) Ef57_sched_Sched_read_3
noncomputable def Cf58_sched_Sched_read_4 : Ctx := mkC Try.prog tys zeros eqs [(46, ⟨(.pair .ptr (.pair (.int .i64) (.int .i64))), (.tup .unit), fun x => f46_sched_Sched_later x.1 x.2.1 x.2.2⟩), (52, ⟨(.pair .ptr (.pair (.int .i64) (.int .i64))), (.int .i64), fun x => f52_sched_reader_next x.1 x.2.1 x.2.2⟩)] []
/-- (*palaversched.Sched).read$4 -/
noncomputable def f58_sched_Sched_read_4 (x0 : Int) (x1 : Addr) (x2 : Addr) (x3 : Addr) : M Unit :=
  bnd (ld .ptr x1) fun (v1 : Option Addr) =>
  bnd (ld (.int .i64) x2) fun (v2 : Int) =>
  bnd (f52_sched_reader_next v1 v2 (1152921504606846976 : Int)) fun (r3 : Int) =>
  bnd (wrs x2 0 [.int .i64 r3]) fun _ =>
  bnd (
  bnd (ordM 58 1 (regionIn 1 Try.f58)) fun (o5 : List Nat) =>
  bnd (ld .ptr x1) fun (v6 : Option Addr) =>
  bnd (ld .ptr x3) fun (v7 : Option Addr) =>
  bnd (drf v7) fun (p8 : Addr) =>
  bnd (ld .sl (Addr.add p8 3)) fun (v9 : Sl) =>
  bnd (f52_sched_reader_next v6 (1 : Int) (v9.len : Int)) fun (r10 : Int) =>
  bnd (
  bnd (chk .sl (Addr.add p8 3) v9) fun _ =>
  bnd (chk .ptr x3 v7) fun _ =>
  ret ()) fun _ =>
  ret r10) fun (s4 : Int) =>
  bnd (ld .ptr x1) fun (v11 : Option Addr) =>
  bnd (drf v11) fun (p12 : Addr) =>
  bnd (ld .bool (Addr.add p12 1)) fun (v13 : Bool) =>
  bnd (
  cnd (!v13) (
  bnd (ld .ptr x3) fun (v15 : Option Addr) =>
  bnd (ld (.int .i64) x2) fun (v16 : Int) =>
  bnd (f46_sched_Sched_later v15 v16 s4) fun (r17 : Unit) =>
  ret ()) (
  ret ())) fun (s14 : Unit) =>
  ret ()
noncomputable def Af58_sched_Sched_read_4 : Ann := (.two .nil (.two (.join [(5, (.int .i64))] [9, 10, 11, 12, 13, 14, 15] false (.ord 58 [(0, 254), (0, 253), (2, 249), (4, 243), (8, 231), (16, 207), (33, 158), (127, 63)] (.o 0 (.o 1 (.o 2 (.o 3 (.o 4 (.o 5 (.o 6 (.o 7 .done)))))))))) (.two .nil (.join [] [21, 22, 23, 24] false (.two .nil .nil)))))
theorem Cf58_sched_Sched_read_4_ok : Cf58_sched_Sched_read_4.Ok := mkC_ok mixed tysOk zerosOk eqsOk ⟨Sf46_sched_Sched_later, Sf52_sched_reader_next, trivial⟩ trivial
theorem Ef58_sched_Sched_read_4 (x : (Int × (Addr × (Addr × Addr)))) : evF Cf58_sched_Sched_read_4 Try.f58 25 (.pair (.int .i64) (.pair .adr (.pair .adr .adr))) (.tup .unit) Af58_sched_Sched_read_4 x = f58_sched_Sched_read_4 x.1 x.2.1 x.2.2.1 x.2.2.2 := by kernel_rfl
theorem Sf58_sched_Sched_read_4 : SoundF Try.prog 58 ⟨(.pair (.int .i64) (.pair .adr (.pair .adr .adr))), (.tup .unit), fun x => f58_sched_Sched_read_4 x.1 x.2.1 x.2.2.1 x.2.2.2⟩ :=
  soundF_of Cf58_sched_Sched_read_4_ok Try.func58 (by kernel_rfl) (by kernel_rfl) Ef58_sched_Sched_read_4
noncomputable def Cf59_sched_Sched_read_5 : Ctx := mkC Try.prog tys zeros eqs [(52, ⟨(.pair .ptr (.pair (.int .i64) (.int .i64))), (.int .i64), fun x => f52_sched_reader_next x.1 x.2.1 x.2.2⟩)] []
/-- (*palaversched.Sched).read$5 -/
noncomputable def f59_sched_Sched_read_5 (x0 : Int) (x1 : Addr) (x2 : Addr) (x3 : Addr) : M Unit :=
  bnd (ld .ptr x1) fun (v1 : Option Addr) =>
  bnd (ld (.int .i64) x2) fun (v2 : Int) =>
  bnd (f52_sched_reader_next v1 v2 (63 : Int)) fun (r3 : Int) =>
  bnd (wrs x2 0 [.int .i64 (IntKind.wrap .i64 (r3 + (1 : Int)))]) fun _ =>
  bnd (
  bnd (ordM 59 2 (regionIn 2 Try.f59)) fun (o5 : List Nat) =>
  bnd (ld .ptr x1) fun (v6 : Option Addr) =>
  bnd (ld .ptr x3) fun (v7 : Option Addr) =>
  bnd (drf v7) fun (p8 : Addr) =>
  bnd (ld .sl (Addr.add p8 3)) fun (v9 : Sl) =>
  bnd (f52_sched_reader_next v6 (1 : Int) (v9.len : Int)) fun (r10 : Int) =>
  bnd (
  bnd (chk .sl (Addr.add p8 3) v9) fun _ =>
  bnd (chk .ptr x3 v7) fun _ =>
  ret ()) fun _ =>
  ret r10) fun (s4 : Int) =>
  bnd (ld .ptr x1) fun (v11 : Option Addr) =>
  bnd (drf v11) fun (p12 : Addr) =>
  bnd (ld .bool (Addr.add p12 1)) fun (v13 : Bool) =>
  bnd (
  cnd (!v13) (
  bnd (ld .ptr x3) fun (v15 : Option Addr) =>
  bnd (drf v15) fun (p16 : Addr) =>
  bnd (ixA 64 1 (Addr.add p16 23) r3) fun (p17 : Addr) =>
  bnd (wrs p17 0 [.int .i64 s4]) fun _ =>
  ret ()) (
  ret ())) fun (s14 : Unit) =>
  ret ()
noncomputable def Af59_sched_Sched_read_5 : Ann := (.two .nil (.two .nil (.two (.join [(6, (.int .i64))] [12, 13, 14, 15, 16, 17, 18] false (.ord 59 [(0, 254), (0, 253), (2, 249), (4, 243), (8, 231), (16, 207), (33, 158), (127, 63)] (.o 0 (.o 1 (.o 2 (.o 3 (.o 4 (.o 5 (.o 6 (.o 7 .done)))))))))) (.two .nil (.join [] [24, 25, 26, 27, 28, 29] false (.two .nil .nil))))))
theorem Cf59_sched_Sched_read_5_ok : Cf59_sched_Sched_read_5.Ok := mkC_ok mixed tysOk zerosOk eqsOk ⟨Sf52_sched_reader_next, trivial⟩ trivial
theorem Ef59_sched_Sched_read_5 (x : (Int × (Addr × (Addr × Addr)))) : evF Cf59_sched_Sched_read_5 Try.f59 30 (.pair (.int .i64) (.pair .adr (.pair .adr .adr))) (.tup .unit) Af59_sched_Sched_read_5 x = f59_sched_Sched_read_5 x.1 x.2.1 x.2.2.1 x.2.2.2 := by kernel_rfl
theorem Sf59_sched_Sched_read_5 : SoundF Try.prog 59 ⟨(.pair (.int .i64) (.pair .adr (.pair .adr .adr))), (.tup .unit), fun x => f59_sched_Sched_read_5 x.1 x.2.1 x.2.2.1 x.2.2.2⟩ :=
  soundF_of Cf59_sched_Sched_read_5_ok Try.func59 (by kernel_rfl) (by kernel_rfl) Ef59_sched_Sched_read_5
noncomputable def Cf53a_many : Ctx := mkC Try.prog tys zeros eqs [(52, ⟨(.pair .ptr (.pair (.int .i64) (.int .i64))), (.int .i64), fun x => f52_sched_reader_next x.1 x.2.1 x.2.2⟩), (54, ⟨(.pair (.int .i64) (.pair .adr .adr)), (.tup .unit), fun x => f54_sched_Sched_read_1 x.1 x.2.1 x.2.2⟩)] []
/-- (*palaversched.reader).many -/
noncomputable def f53a_many (x0 : Option Addr) (x1 : Int) (x2 : (Addr × Addr)) : M Unit :=
  bnd (f52_sched_reader_next x0 (0 : Int) x1) fun (r1 : Int) =>
  loopM (fun (s2 : Int) =>
  bnd (
  cnd (decide (s2 < r1)) (
  bnd (drf x0) fun (p3 : Addr) =>
  bnd (ld .bool (Addr.add p3 1)) fun (v4 : Bool) =>
  ret (!v4)) (
  ret false)) fun (b5 : Bool) =>
  cnd b5 (
  bnd (f54_sched_Sched_read_1 s2 x2.1 x2.2) fun (r6 : Unit) =>
  ret (Sum.inl (IntKind.wrap .i64 (s2 + (1 : Int))))) (
  ret (Sum.inr ()))) (0 : Int)
noncomputable def Af53a_many : Ann := (.two .nil (.two .nil (.one (.loop [(7, (.int .i64))] [11, 12, 13, 14, 15, 16, 17, 18, 19, 20, 21, 22, 23, 24, 25] (.two (.two .nil (.two .nil .nil)) (.two (.one .nil) .nil))))))
theorem Cf53a_many_ok : Cf53a_many.Ok := mkC_ok mixed tysOk zerosOk eqsOk ⟨Sf52_sched_reader_next, Sf54_sched_Sched_read_1, trivial⟩ trivial
theorem Ef53a_many (x : (Option Addr × (Int × (Addr × Addr)))) : evF Cf53a_many Try.f53 26 (.pair .ptr (.pair (.int .i64) (.clo 54 (.pair .adr .adr)))) (.tup .unit) Af53a_many x = f53a_many x.1 x.2.1 x.2.2 := by kernel_rfl
theorem Sf53a_many : SoundF Try.prog 53 ⟨(.pair .ptr (.pair (.int .i64) (.clo 54 (.pair .adr .adr)))), (.tup .unit), fun x => f53a_many x.1 x.2.1 x.2.2⟩ :=
  soundF_of Cf53a_many_ok Try.func53 (by kernel_rfl) (by kernel_rfl) Ef53a_many
noncomputable def Cf53b_many : Ctx := mkC Try.prog tys zeros eqs [(52, ⟨(.pair .ptr (.pair (.int .i64) (.int .i64))), (.int .i64), fun x => f52_sched_reader_next x.1 x.2.1 x.2.2⟩), (57, ⟨(.pair (.int .i64) (.pair .adr (.pair .adr .adr))), (.tup .unit), fun x => f57_sched_Sched_read_3 x.1 x.2.1 x.2.2.1 x.2.2.2⟩)] []
/-- (*palaversched.reader).many -/
noncomputable def f53b_many (x0 : Option Addr) (x1 : Int) (x2 : (Addr × (Addr × Addr))) : M Unit :=
  bnd (f52_sched_reader_next x0 (0 : Int) x1) fun (r1 : Int) =>
  loopM (fun (s2 : Int) =>
  bnd (
  cnd (decide (s2 < r1)) (
  bnd (drf x0) fun (p3 : Addr) =>
  bnd (ld .bool (Addr.add p3 1)) fun (v4 : Bool) =>
  ret (!v4)) (
  ret false)) fun (b5 : Bool) =>
  cnd b5 (
  bnd (f57_sched_Sched_read_3 s2 x2.1 x2.2.1 x2.2.2) fun (r6 : Unit) =>
  ret (Sum.inl (IntKind.wrap .i64 (s2 + (1 : Int))))) (
  ret (Sum.inr ()))) (0 : Int)
noncomputable def Af53b_many : Ann := (.two .nil (.two .nil (.one (.loop [(7, (.int .i64))] [11, 12, 13, 14, 15, 16, 17, 18, 19, 20, 21, 22, 23, 24, 25] (.two (.two .nil (.two .nil .nil)) (.two (.one .nil) .nil))))))
theorem Cf53b_many_ok : Cf53b_many.Ok := mkC_ok mixed tysOk zerosOk eqsOk ⟨Sf52_sched_reader_next, Sf57_sched_Sched_read_3, trivial⟩ trivial
theorem Ef53b_many (x : (Option Addr × (Int × (Addr × (Addr × Addr))))) : evF Cf53b_many Try.f53 26 (.pair .ptr (.pair (.int .i64) (.clo 57 (.pair .adr (.pair .adr .adr))))) (.tup .unit) Af53b_many x = f53b_many x.1 x.2.1 x.2.2 := by kernel_rfl
theorem Sf53b_many : SoundF Try.prog 53 ⟨(.pair .ptr (.pair (.int .i64) (.clo 57 (.pair .adr (.pair .adr .adr))))), (.tup .unit), fun x => f53b_many x.1 x.2.1 x.2.2⟩ :=
  soundF_of Cf53b_many_ok Try.func53 (by kernel_rfl) (by kernel_rfl) Ef53b_many
noncomputable def Cf53c_many : Ctx := mkC Try.prog tys zeros eqs [(52, ⟨(.pair .ptr (.pair (.int .i64) (.int .i64))), (.int .i64), fun x => f52_sched_reader_next x.1 x.2.1 x.2.2⟩), (58, ⟨(.pair (.int .i64) (.pair .adr (.pair .adr .adr))), (.tup .unit), fun x => f58_sched_Sched_read_4 x.1 x.2.1 x.2.2.1 x.2.2.2⟩)] []
/-- (*palaversched.reader).many -/
noncomputable def f53c_many (x0 : Option Addr) (x1 : Int) (x2 : (Addr × (Addr × Addr))) : M Unit :=
  bnd (f52_sched_reader_next x0 (0 : Int) x1) fun (r1 : Int) =>
  loopM (fun (s2 : Int) =>
  bnd (
  cnd (decide (s2 < r1)) (
  bnd (drf x0) fun (p3 : Addr) =>
  bnd (ld .bool (Addr.add p3 1)) fun (v4 : Bool) =>
  ret (!v4)) (
  ret false)) fun (b5 : Bool) =>
  cnd b5 (
  bnd (f58_sched_Sched_read_4 s2 x2.1 x2.2.1 x2.2.2) fun (r6 : Unit) =>
  ret (Sum.inl (IntKind.wrap .i64 (s2 + (1 : Int))))) (
  ret (Sum.inr ()))) (0 : Int)
noncomputable def Af53c_many : Ann := (.two .nil (.two .nil (.one (.loop [(7, (.int .i64))] [11, 12, 13, 14, 15, 16, 17, 18, 19, 20, 21, 22, 23, 24, 25] (.two (.two .nil (.two .nil .nil)) (.two (.one .nil) .nil))))))
theorem Cf53c_many_ok : Cf53c_many.Ok := mkC_ok mixed tysOk zerosOk eqsOk ⟨Sf52_sched_reader_next, Sf58_sched_Sched_read_4, trivial⟩ trivial
theorem Ef53c_many (x : (Option Addr × (Int × (Addr × (Addr × Addr))))) : evF Cf53c_many Try.f53 26 (.pair .ptr (.pair (.int .i64) (.clo 58 (.pair .adr (.pair .adr .adr))))) (.tup .unit) Af53c_many x = f53c_many x.1 x.2.1 x.2.2 := by kernel_rfl
theorem Sf53c_many : SoundF Try.prog 53 ⟨(.pair .ptr (.pair (.int .i64) (.clo 58 (.pair .adr (.pair .adr .adr))))), (.tup .unit), fun x => f53c_many x.1 x.2.1 x.2.2⟩ :=
  soundF_of Cf53c_many_ok Try.func53 (by kernel_rfl) (by kernel_rfl) Ef53c_many
noncomputable def Cf53d_many : Ctx := mkC Try.prog tys zeros eqs [(52, ⟨(.pair .ptr (.pair (.int .i64) (.int .i64))), (.int .i64), fun x => f52_sched_reader_next x.1 x.2.1 x.2.2⟩), (59, ⟨(.pair (.int .i64) (.pair .adr (.pair .adr .adr))), (.tup .unit), fun x => f59_sched_Sched_read_5 x.1 x.2.1 x.2.2.1 x.2.2.2⟩)] []
/-- (*palaversched.reader).many -/
noncomputable def f53d_many (x0 : Option Addr) (x1 : Int) (x2 : (Addr × (Addr × Addr))) : M Unit :=
  bnd (f52_sched_reader_next x0 (0 : Int) x1) fun (r1 : Int) =>
  loopM (fun (s2 : Int) =>
  bnd (
  cnd (decide (s2 < r1)) (
  bnd (drf x0) fun (p3 : Addr) =>
  bnd (ld .bool (Addr.add p3 1)) fun (v4 : Bool) =>
  ret (!v4)) (
  ret false)) fun (b5 : Bool) =>
  cnd b5 (
  bnd (f59_sched_Sched_read_5 s2 x2.1 x2.2.1 x2.2.2) fun (r6 : Unit) =>
  ret (Sum.inl (IntKind.wrap .i64 (s2 + (1 : Int))))) (
  ret (Sum.inr ()))) (0 : Int)
noncomputable def Af53d_many : Ann := (.two .nil (.two .nil (.one (.loop [(7, (.int .i64))] [11, 12, 13, 14, 15, 16, 17, 18, 19, 20, 21, 22, 23, 24, 25] (.two (.two .nil (.two .nil .nil)) (.two (.one .nil) .nil))))))
theorem Cf53d_many_ok : Cf53d_many.Ok := mkC_ok mixed tysOk zerosOk eqsOk ⟨Sf52_sched_reader_next, Sf59_sched_Sched_read_5, trivial⟩ trivial
theorem Ef53d_many (x : (Option Addr × (Int × (Addr × (Addr × Addr))))) : evF Cf53d_many Try.f53 26 (.pair .ptr (.pair (.int .i64) (.clo 59 (.pair .adr (.pair .adr .adr))))) (.tup .unit) Af53d_many x = f53d_many x.1 x.2.1 x.2.2 := by kernel_rfl
theorem Sf53d_many : SoundF Try.prog 53 ⟨(.pair .ptr (.pair (.int .i64) (.clo 59 (.pair .adr (.pair .adr .adr))))), (.tup .unit), fun x => f53d_many x.1 x.2.1 x.2.2⟩ :=
  soundF_of Cf53d_many_ok Try.func53 (by kernel_rfl) (by kernel_rfl) Ef53d_many
noncomputable def Bf41_sched_Sched_read : Ctx := mkC Try.prog tys zeros eqs [(52, ⟨(.pair .ptr (.pair (.int .i64) (.int .i64))), (.int .i64), fun x => f52_sched_reader_next x.1 x.2.1 x.2.2⟩), (53, ⟨(.pair .ptr (.pair (.int .i64) (.clo 54 (.pair .adr .adr)))), (.tup .unit), fun x => f53a_many x.1 x.2.1 x.2.2⟩), (55, ⟨(.pair .adr .adr), .sl, fun x => f55_sched_Sched_read_2 x.1 x.2⟩)] []
noncomputable def Cf41_sched_Sched_read : Ctx := Bf41_sched_Sched_read.withAlt [(53, ⟨(.pair .ptr (.pair (.int .i64) (.clo 57 (.pair .adr (.pair .adr .adr))))), (.tup .unit), fun x => f53b_many x.1 x.2.1 x.2.2⟩), (53, ⟨(.pair .ptr (.pair (.int .i64) (.clo 58 (.pair .adr (.pair .adr .adr))))), (.tup .unit), fun x => f53c_many x.1 x.2.1 x.2.2⟩), (53, ⟨(.pair .ptr (.pair (.int .i64) (.clo 59 (.pair .adr (.pair .adr .adr))))), (.tup .unit), fun x => f53d_many x.1 x.2.1 x.2.2⟩)]
/-- (*palaversched.Sched).read -/
noncomputable def f41_sched_Sched_read (x0 : Option Addr) (x1 : Option Addr) : M Unit :=
  bnd (newC 24 [.pointer x0]) fun (p1 : Addr) =>
  bnd (newC 76 [.pointer x1]) fun (p2 : Addr) =>
  bnd (
  bnd (ordM 41 1 (regionIn 1 Try.f41)) fun (o4 : List Nat) =>
  bnd (ld .ptr p1) fun (v5 : Option Addr) =>
  bnd (ld .ptr p1) fun (v6 : Option Addr) =>
  bnd (ld .ptr p2) fun (v7 : Option Addr) =>
  bnd (ld .ptr p2) fun (v8 : Option Addr) =>
  bnd (f52_sched_reader_next v7 (0 : Int) (1152921504606846976 : Int)) fun (r9 : Int) =>
  bnd (
  bnd (chk .ptr p2 v8) fun _ =>
  bnd (chk .ptr p1 v6) fun _ =>
  bnd (chk .ptr p1 v5) fun _ =>
  ret ()) fun _ =>
  bnd (f52_sched_reader_next v8 (0 : Int) (4096 : Int)) fun (r10 : Int) =>
  bnd (
  bnd (chk .ptr p1 v6) fun _ =>
  bnd (chk .ptr p1 v5) fun _ =>
  ret ()) fun _ =>
  bnd (drf v5) fun (p11 : Addr) =>
  bnd (wrs (Addr.add p11 0) 0 [.int .i64 r9]) fun _ =>
  bnd (
  bnd (chk .ptr p1 v6) fun _ =>
  ret ()) fun _ =>
  bnd (drf v6) fun (p12 : Addr) =>
  bnd (wrs (Addr.add p12 1) 0 [.int .i64 r10]) fun _ =>
  bnd (ret ()) fun _ =>
  ret ()) fun (s3 : Unit) =>
  bnd (ld .ptr p2) fun (v13 : Option Addr) =>
  bnd (f53a_many v13 (4096 : Int) (p2, p1)) fun (r14 : Unit) =>
  bnd (newC 32 [(Value.nilFunc)]) fun (p15 : Addr) =>
  bnd (wrs p15 0 [.func (.func 55) #[] #[.pointer (some p2), .pointer (some p1)]]) fun _ =>
  bnd (ld .ptr p2) fun (v16 : Option Addr) =>
  bnd (f53b_many v16 (4096 : Int) (p2, p15, p1)) fun (r17 : Unit) =>
  loopM (fun (s18 : Int) =>
  cnd (decide (s18 ≤ (16 : Int))) (
  bnd (
  bnd (ordM 41 8 (regionIn 8 Try.f41)) fun (o20 : List Nat) =>
  bnd (ld .ptr p1) fun (v21 : Option Addr) =>
  bnd (ld (.clo 55 (.pair .adr .adr)) p15) fun (v22 : (Addr × Addr)) =>
  bnd (drf v21) fun (p23 : Addr) =>
  bnd (f55_sched_Sched_read_2 v22.1 v22.2) fun (r24 : Sl) =>
  bnd (
  bnd (chk .ptr p1 v21) fun _ =>
  ret ()) fun _ =>
  bnd (ixA 17 1 (Addr.add p23 4) s18) fun (p25 : Addr) =>
  bnd (wrs p25 0 [.slice r24.a r24.len r24.cap]) fun _ =>
  bnd (ret ()) fun _ =>
  ret ()) fun (s19 : Unit) =>
  ret (Sum.inl (IntKind.wrap .i64 (s18 + (1 : Int))))) (
  bnd (
  bnd (newC 3 [.int .i64 (0 : Int)]) fun (p26 : Addr) =>
  bnd (wrs p26 0 [.int .i64 (0 : Int)]) fun _ =>
  bnd (ld .ptr p2) fun (v27 : Option Addr) =>
  bnd (f53c_many v27 (4096 : Int) (p2, p26, p1)) fun (r28 : Unit) =>
  bnd (newC 3 [.int .i64 (0 : Int)]) fun (p29 : Addr) =>
  bnd (wrs p29 0 [.int .i64 (0 : Int)]) fun _ =>
  bnd (ld .ptr p2) fun (v30 : Option Addr) =>
  bnd (f53d_many v30 (64 : Int) (p2, p29, p1)) fun (r31 : Unit) =>
  ret ()) fun r32 =>
  ret (Sum.inr r32))) (1 : Int)
noncomputable def Af41_sched_Sched_read : Ann := (.two .nil (.two (.join [] [8, 9, 10, 11, 12, 13, 14, 15, 16, 17] false (.ord 41 [(0, 4094), (0, 4093), (0, 4091), (4, 4083), (0, 4079), (24, 4047), (45, 4030), (109, 3903), (173, 3703), (511, 3581), (1023, 2559), (1535, 991)] (.o 0 (.o 1 (.o 2 (.o 4 (.o 3 (.o 5 (.o 6 (.o 7 (.o 8 (.o 9 (.o 10 (.o 11 .done)))))))))))))) (.two .nil (.two .nil (.two .nil (.two (.two .nil (.one (.loop [(5, (.int .i64))] [25, 26, 27, 28, 29, 30, 31, 32, 33, 34, 35] (.two (.two .nil (.two .nil .nil)) (.two (.one (.join [] [29, 30, 31, 32, 33, 34, 35] false (.ord 41 [(0, 254), (0, 253), (0, 251), (4, 243), (1, 238), (16, 207), (47, 157), (79, 55)] (.o 0 (.o 1 (.o 2 (.o 4 (.o 5 (.o 3 (.o 6 (.o 7 .done))))))))))) .nil))))) (.two .nil (.two .nil (.two .nil .nil)))))))))
theorem Bf41_sched_Sched_read_ok : Bf41_sched_Sched_read.Ok := mkC_ok mixed tysOk zerosOk eqsOk ⟨Sf52_sched_reader_next, Sf53a_many, Sf55_sched_Sched_read_2, trivial⟩ trivial
theorem Cf41_sched_Sched_read_ok : Cf41_sched_Sched_read.Ok := withAlt_ok Bf41_sched_Sched_read_ok ⟨Sf53b_many, Sf53c_many, Sf53d_many, trivial⟩
theorem Ef41_sched_Sched_read (x : (Option Addr × Option Addr)) : evF Cf41_sched_Sched_read Try.f41 42 (.pair .ptr .ptr) (.tup .unit) Af41_sched_Sched_read x = f41_sched_Sched_read x.1 x.2 := by kernel_rfl
theorem Sf41_sched_Sched_read : SoundF Try.prog 41 ⟨(.pair .ptr .ptr), (.tup .unit), fun x => f41_sched_Sched_read x.1 x.2⟩ :=
  soundF_of Cf41_sched_Sched_read_ok Try.func41 (by kernel_rfl) (by kernel_rfl) Ef41_sched_Sched_read
noncomputable def Cf60_sched_Sched_sound_1 : Ctx := mkC Try.prog tys zeros eqs [(30, ⟨(.pair .ptr (.int .i64)), .ptr, fun x => f30_sched_Sched_of x.1 x.2⟩)] []
/-- (*palaversched.Sched).sound$1 -/
noncomputable def f60_sched_Sched_sound_1 (x0 : Int) (x1 : Int) (x2 : Int) (x3 : Addr) (x4 : Addr) : M Bool :=
  bnd (ld .sl x3) fun (v1 : Sl) =>
  cnd (decide (x0 > (v1.len : Int))) (
  ret false) (
  bnd (ld .sl x3) fun (v2 : Sl) =>
  bnd (ix 1 v2 (IntKind.wrap .i64 (x0 - (1 : Int)))) fun (p3 : Addr) =>
  bnd (ld (.int .i64) p3) fun (v4 : Int) =>
  bnd (ix 1 v2 (IntKind.wrap .i64 (x0 - (1 : Int)))) fun (p5 : Addr) =>
  bnd (wrs p5 0 [.int .i64 (IntKind.wrap .i64 (v4 + (1 : Int)))]) fun _ =>
  bnd (ld .ptr x4) fun (v6 : Option Addr) =>
  bnd (f30_sched_Sched_of v6 x0) fun (r7 : Option Addr) =>
  bnd (drf r7) fun (p8 : Addr) =>
  bnd (ld (.int .u8) (Addr.add p8 1)) fun (v9 : Int) =>
  bnd (
  cnd (v9 == x1) (
  bnd (
  cnd (x2 == (0 : Int)) (
  ret true) (
  bnd (drf r7) fun (p10 : Addr) =>
  bnd (ld (.int .i64) (Addr.add p10 0)) fun (v11 : Int) =>
  ret (v11 == x2))) fun (b12 : Bool) =>
  ret b12) (
  ret false)) fun (b13 : Bool) =>
  ret b13)
noncomputable def Af60_sched_Sched_sound_1 : Ann := (.two .nil (.two (.two .nil (.two (.two .nil .nil) .nil)) (.two .nil (.two .nil (.two .nil .nil)))))
theorem Cf60_sched_Sched_sound_1_ok : Cf60_sched_Sched_sound_1.Ok := mkC_ok mixed tysOk zerosOk eqsOk ⟨Sf30_sched_Sched_of, trivial⟩ trivial
theorem Ef60_sched_Sched_sound_1 (x : (Int × (Int × (Int × (Addr × Addr))))) : evF Cf60_sched_Sched_sound_1 Try.f60 42 (.pair (.int .i64) (.pair (.int .u8) (.pair (.int .i64) (.pair .adr .adr)))) .bool Af60_sched_Sched_sound_1 x = f60_sched_Sched_sound_1 x.1 x.2.1 x.2.2.1 x.2.2.2.1 x.2.2.2.2 := by kernel_rfl
theorem Sf60_sched_Sched_sound_1 : SoundF Try.prog 60 ⟨(.pair (.int .i64) (.pair (.int .u8) (.pair (.int .i64) (.pair .adr .adr)))), .bool, fun x => f60_sched_Sched_sound_1 x.1 x.2.1 x.2.2.1 x.2.2.2.1 x.2.2.2.2⟩ :=
  soundF_of Cf60_sched_Sched_sound_1_ok Try.func60 (by kernel_rfl) (by kernel_rfl) Ef60_sched_Sched_sound_1
noncomputable def Cf42_sched_Sched_sound : Ctx := mkC Try.prog tys zeros eqs [(30, ⟨(.pair .ptr (.int .i64)), .ptr, fun x => f30_sched_Sched_of x.1 x.2⟩), (48, ⟨.ptr, (.int .i64), fun x => f48_sched_Sched_highest x⟩), (60, ⟨(.pair (.int .i64) (.pair (.int .u8) (.pair (.int .i64) (.pair .adr .adr)))), .bool, fun x => f60_sched_Sched_sound_1 x.1 x.2.1 x.2.2.1 x.2.2.2.1 x.2.2.2.2⟩)] []
/-- (*palaversched.Sched).sound -/
noncomputable def f42_sched_Sched_sound (x0 : Option Addr) : M Bool :=
  bnd (newC 24 [.pointer x0]) fun (p1 : Addr) =>
  bnd (ld .ptr p1) fun (v2 : Option Addr) =>
  bnd (drf v2) fun (p3 : Addr) =>
  bnd (ld .sl (Addr.add p3 2)) fun (v4 : Sl) =>
  bnd (runV Try.prog .sl (Instr.makeSlice 31 (.int .i64 (v4.len : Int)) (.int .i64 (v4.len : Int)))) fun (v5 : Sl) =>
  bnd (newC 31 [.slice none 0 0]) fun (p6 : Addr) =>
  bnd (wrs p6 0 [.slice v5.a v5.len v5.cap]) fun _ =>
  bnd (ld .ptr p1) fun (v7 : Option Addr) =>
  bnd (drf v7) fun (p8 : Addr) =>
  bnd (ld (.int .i64) (Addr.add p8 1)) fun (v9 : Int) =>
  bnd (
  cnd (decide (v9 > (0 : Int))) (
  bnd (ld .ptr p1) fun (v10 : Option Addr) =>
  bnd (drf v10) fun (p11 : Addr) =>
  bnd (ld (.int .i64) (Addr.add p11 1)) fun (v12 : Int) =>
  bnd (f60_sched_Sched_sound_1 v12 (2 : Int) (0 : Int) p6 p1) fun (r13 : Bool) =>
  ret (!r13)) (
  ret false)) fun (b14 : Bool) =>
  cnd b14 (
  ret false) (
  bnd (ld .ptr p1) fun (v15 : Option Addr) =>
  bnd (drf v15) fun (p16 : Addr) =>
  bnd (ld .sl (Addr.add p16 3)) fun (v17 : Sl) =>
  loopM (fun (s18 : Int) =>
  cnd (decide (s18 < (v17.len : Int))) (
  bnd (ix 2 v17 s18) fun (p19 : Addr) =>
  bnd (ld (.agg (.pair (.int .i64) .sl)) p19) fun (v20 : (Int × Sl)) =>
  bnd (newC 66 [.int .i64 (0 : Int), .slice none 0 0]) fun (p21 : Addr) =>
  bnd (wrs p21 0 [.int .i64 v20.1, .slice v20.2.a v20.2.len v20.2.cap]) fun _ =>
  bnd (ld .sl (Addr.add p21 1)) fun (v22 : Sl) =>
  loopM (fun (s23 : Int) =>
  cnd (decide (s23 < (v22.len : Int))) (
  bnd (ix 1 v22 s23) fun (p24 : Addr) =>
  bnd (ld (.int .i64) p24) fun (v25 : Int) =>
  bnd (f60_sched_Sched_sound_1 v25 (3 : Int) (0 : Int) p6 p1) fun (r26 : Bool) =>
  bnd (
  cnd (!r26) (
  ret true) (
  bnd (ld (.int .i64) (Addr.add p21 0)) fun (v27 : Int) =>
  ret (decide (v27 > (0 : Int))))) fun (b28 : Bool) =>
  cnd b28 (
  ret (Sum.inr (Sum.inr false))) (
  bnd (ld .ptr p1) fun (v29 : Option Addr) =>
  bnd (f30_sched_Sched_of v29 v25) fun (r30 : Option Addr) =>
  bnd (drf r30) fun (p31 : Addr) =>
  bnd (wrs (Addr.add p31 2) 0 [.int .i64 (IntKind.wrap .i64 (s18 + (1 : Int)))]) fun _ =>
  ret (Sum.inl (IntKind.wrap .i64 (s23 + (1 : Int)))))) (
  ret (Sum.inr (Sum.inl (IntKind.wrap .i64 (s18 + (1 : Int))))))) (0 : Int)) (
  bnd (
  bnd (ld .ptr p1) fun (v32 : Option Addr) =>
  bnd (drf v32) fun (p33 : Addr) =>
  bnd (ld (.agg (.pair .sl (.pair .sl (.pair .sl (.pair .sl (.pair .sl (.pair .sl (.pair .sl (.pair .sl (.pair .sl (.pair .sl (.pair .sl (.pair .sl (.pair .sl (.pair .sl (.pair .sl (.pair .sl .sl))))))))))))))))) (Addr.add p33 4)) fun (v34 : (Sl × (Sl × (Sl × (Sl × (Sl × (Sl × (Sl × (Sl × (Sl × (Sl × (Sl × (Sl × (Sl × (Sl × (Sl × (Sl × Sl))))))))))))))))) =>
  loopM (fun (s35 : Int) =>
  cnd (decide (s35 < (17 : Int))) (
  bnd (ixG .sl [.slice v34.1.a v34.1.len v34.1.cap, .slice v34.2.1.a v34.2.1.len v34.2.1.cap, .slice v34.2.2.1.a v34.2.2.1.len v34.2.2.1.cap, .slice v34.2.2.2.1.a v34.2.2.2.1.len v34.2.2.2.1.cap, .slice v34.2.2.2.2.1.a v34.2.2.2.2.1.len v34.2.2.2.2.1.cap, .slice v34.2.2.2.2.2.1.a v34.2.2.2.2.2.1.len v34.2.2.2.2.2.1.cap, .slice v34.2.2.2.2.2.2.1.a v34.2.2.2.2.2.2.1.len v34.2.2.2.2.2.2.1.cap, .slice v34.2.2.2.2.2.2.2.1.a v34.2.2.2.2.2.2.2.1.len v34.2.2.2.2.2.2.2.1.cap, .slice v34.2.2.2.2.2.2.2.2.1.a v34.2.2.2.2.2.2.2.2.1.len v34.2.2.2.2.2.2.2.2.1.cap, .slice v34.2.2.2.2.2.2.2.2.2.1.a v34.2.2.2.2.2.2.2.2.2.1.len v34.2.2.2.2.2.2.2.2.2.1.cap, .slice v34.2.2.2.2.2.2.2.2.2.2.1.a v34.2.2.2.2.2.2.2.2.2.2.1.len v34.2.2.2.2.2.2.2.2.2.2.1.cap, .slice v34.2.2.2.2.2.2.2.2.2.2.2.1.a v34.2.2.2.2.2.2.2.2.2.2.2.1.len v34.2.2.2.2.2.2.2.2.2.2.2.1.cap, .slice v34.2.2.2.2.2.2.2.2.2.2.2.2.1.a v34.2.2.2.2.2.2.2.2.2.2.2.2.1.len v34.2.2.2.2.2.2.2.2.2.2.2.2.1.cap, .slice v34.2.2.2.2.2.2.2.2.2.2.2.2.2.1.a v34.2.2.2.2.2.2.2.2.2.2.2.2.2.1.len v34.2.2.2.2.2.2.2.2.2.2.2.2.2.1.cap, .slice v34.2.2.2.2.2.2.2.2.2.2.2.2.2.2.1.a v34.2.2.2.2.2.2.2.2.2.2.2.2.2.2.1.len v34.2.2.2.2.2.2.2.2.2.2.2.2.2.2.1.cap, .slice v34.2.2.2.2.2.2.2.2.2.2.2.2.2.2.2.1.a v34.2.2.2.2.2.2.2.2.2.2.2.2.2.2.2.1.len v34.2.2.2.2.2.2.2.2.2.2.2.2.2.2.2.1.cap, .slice v34.2.2.2.2.2.2.2.2.2.2.2.2.2.2.2.2.a v34.2.2.2.2.2.2.2.2.2.2.2.2.2.2.2.2.len v34.2.2.2.2.2.2.2.2.2.2.2.2.2.2.2.2.cap] 17 s35) fun (v36 : Sl) =>
  loopM (fun (s37 : Int) =>
  cnd (decide (s37 < (v36.len : Int))) (
  bnd (ix 1 v36 s37) fun (p38 : Addr) =>
  bnd (ld (.int .i64) p38) fun (v39 : Int) =>
  bnd (f60_sched_Sched_sound_1 v39 (1 : Int) s35 p6 p1) fun (r40 : Bool) =>
  cnd (!r40) (
  ret (Sum.inr (Sum.inr false))) (
  ret (Sum.inl (IntKind.wrap .i64 (s37 + (1 : Int)))))) (
  ret (Sum.inr (Sum.inl (IntKind.wrap .i64 (s35 + (1 : Int))))))) (0 : Int)) (
  bnd (
  bnd (ld .ptr p1) fun (v41 : Option Addr) =>
  bnd (drf v41) fun (p42 : Addr) =>
  bnd (ld .sl (Addr.add p42 2)) fun (v43 : Sl) =>
  loopM (fun (s44 : Int) =>
  cnd (decide (s44 < (v43.len : Int))) (
  bnd (ix 3 v43 s44) fun (p45 : Addr) =>
  bnd (ld (.agg (.pair (.int .i64) (.pair (.int .u8) (.int .i64)))) p45) fun (v46 : (Int × (Int × Int))) =>
  bnd (newC 61 [.int .i64 (0 : Int), .int .u8 (0 : Int), .int .i64 (0 : Int)]) fun (p47 : Addr) =>
  bnd (wrs p47 0 [.int .i64 v46.1, .int .u8 v46.2.1, .int .i64 v46.2.2]) fun _ =>
  bnd (ld (.int .u8) (Addr.add p47 1)) fun (v48 : Int) =>
  bnd (
  cnd (v48 == (4 : Int)) (
  ret true) (
  bnd (ld (.int .u8) (Addr.add p47 1)) fun (v49 : Int) =>
  ret (v49 == (5 : Int)))) fun (b50 : Bool) =>
  bnd (
  cnd b50 (
  ret (0 : Int)) (
  ret (1 : Int))) fun (s51 : Int) =>
  bnd (ld .sl p6) fun (v52 : Sl) =>
  bnd (ix 1 v52 s44) fun (p53 : Addr) =>
  bnd (ld (.int .i64) p53) fun (v54 : Int) =>
  cnd (v54 != s51) (
  ret (Sum.inr false)) (
  ret (Sum.inl (IntKind.wrap .i64 (s44 + (1 : Int)))))) (
  bnd (
  bnd (ld .ptr p1) fun (v55 : Option Addr) =>
  bnd (f48_sched_Sched_highest v55) fun (r56 : Int) =>
  bnd (
  bnd (ordM 42 36 (regionIn 36 Try.f42)) fun (o58 : List Nat) =>
  bnd (ld .ptr p1) fun (v59 : Option Addr) =>
  bnd (drf v59) fun (p60 : Addr) =>
  bnd (ld (.int .i64) (Addr.add p60 1)) fun (v61 : Int) =>
  cnd (v61 == (0 : Int)) (
  cnd (r56 == (0 : Int)) (
  bnd (
  bnd (chk (.int .i64) (Addr.add p60 1) v61) fun _ =>
  bnd (chk .ptr p1 v59) fun _ =>
  ret ()) fun _ =>
  ret true) (
  bnd (ld .ptr p1) fun (v62 : Option Addr) =>
  bnd (drf v62) fun (p63 : Addr) =>
  bnd (ld (.int .i64) (Addr.add p63 1)) fun (v64 : Int) =>
  cnd (decide (v64 > (0 : Int))) (
  bnd (ld .ptr p1) fun (v65 : Option Addr) =>
  bnd (ld .ptr p1) fun (v66 : Option Addr) =>
  bnd (drf v66) fun (p67 : Addr) =>
  bnd (ld (.int .i64) (Addr.add p67 1)) fun (v68 : Int) =>
  bnd (f30_sched_Sched_of v65 v68) fun (r69 : Option Addr) =>
  bnd (
  bnd (chk .ptr p1 v66) fun _ =>
  bnd (chk (.int .i64) (Addr.add p63 1) v64) fun _ =>
  bnd (chk .ptr p1 v62) fun _ =>
  bnd (chk (.int .i64) (Addr.add p60 1) v61) fun _ =>
  bnd (chk .ptr p1 v59) fun _ =>
  ret ()) fun _ =>
  bnd (drf r69) fun (p70 : Addr) =>
  bnd (ld (.int .i64) (Addr.add p70 0)) fun (v71 : Int) =>
  ret (decide (r56 ≤ v71))) (
  bnd (
  bnd (chk (.int .i64) (Addr.add p63 1) v64) fun _ =>
  bnd (chk .ptr p1 v62) fun _ =>
  bnd (chk (.int .i64) (Addr.add p60 1) v61) fun _ =>
  bnd (chk .ptr p1 v59) fun _ =>
  ret ()) fun _ =>
  ret false))) (
  bnd (ld .ptr p1) fun (v72 : Option Addr) =>
  bnd (drf v72) fun (p73 : Addr) =>
  bnd (ld (.int .i64) (Addr.add p73 1)) fun (v74 : Int) =>
  cnd (decide (v74 > (0 : Int))) (
  bnd (ld .ptr p1) fun (v75 : Option Addr) =>
  bnd (ld .ptr p1) fun (v76 : Option Addr) =>
  bnd (drf v76) fun (p77 : Addr) =>
  bnd (ld (.int .i64) (Addr.add p77 1)) fun (v78 : Int) =>
  bnd (f30_sched_Sched_of v75 v78) fun (r79 : Option Addr) =>
  bnd (
  bnd (chk .ptr p1 v76) fun _ =>
  bnd (chk (.int .i64) (Addr.add p73 1) v74) fun _ =>
  bnd (chk .ptr p1 v72) fun _ =>
  bnd (chk (.int .i64) (Addr.add p60 1) v61) fun _ =>
  bnd (chk .ptr p1 v59) fun _ =>
  ret ()) fun _ =>
  bnd (drf r79) fun (p80 : Addr) =>
  bnd (ld (.int .i64) (Addr.add p80 0)) fun (v81 : Int) =>
  ret (decide (r56 ≤ v81))) (
  bnd (
  bnd (chk (.int .i64) (Addr.add p73 1) v74) fun _ =>
  bnd (chk .ptr p1 v72) fun _ =>
  bnd (chk (.int .i64) (Addr.add p60 1) v61) fun _ =>
  bnd (chk .ptr p1 v59) fun _ =>
  ret ()) fun _ =>
  ret false))) fun (s57 : Bool) =>
  ret s57) fun r82 =>
  ret (Sum.inr r82))) (0 : Int)) fun r83 =>
  ret (Sum.inr r83))) (0 : Int)) fun r84 =>
  ret (Sum.inr r84))) (0 : Int))
noncomputable def Af42_sched_Sched_sound : Ann := (.two .nil (.two .nil (.two .nil (.two (.two .nil (.two (.two .nil .nil) .nil)) (.two (.two .nil (.one (.loop [(43, (.int .i64))] [2, 5, 6, 8, 44, 45, 46, 47, 48, 49, 50, 51, 52, 53, 54, 55, 56, 57, 58, 59, 60, 61, 62, 63, 64, 65, 66, 67, 68, 69, 70, 71, 72] (.two .nil (.two (.two .nil .nil) (.two (.one (.two .nil (.two .nil (.one (.loop [(51, (.int .i64))] [2, 8, 52, 53, 54, 55, 56, 57, 58, 59, 60, 61, 62, 63, 64, 65, 66, 67, 68, 69, 70, 71] (.two .nil (.two (.two .nil .nil) (.two (.one (.two .nil (.two (.two .nil (.two (.two .nil .nil) .nil)) .nil))) .nil)))))))) .nil)))))) (.two (.two .nil (.one (.loop [(77, (.int .i64))] [2, 9, 10, 12, 78, 79, 80, 81, 82, 83, 84, 85, 86, 87, 88, 89, 90, 91, 92, 93] (.two .nil (.two (.two .nil .nil) (.two (.one (.two .nil (.two .nil (.one (.loop [(83, (.int .i64))] [2, 12, 84, 85, 86, 87, 88, 89, 90, 91, 92] (.two .nil (.two (.two .nil .nil) (.two (.one (.two .nil (.two .nil (.two (.two .nil .nil) .nil)))) .nil)))))))) .nil)))))) (.two (.two .nil (.one (.loop [(99, (.int .i64))] [2, 13, 14, 15, 100, 101, 102, 103, 104, 105, 106, 107, 108, 109, 110, 111, 112, 113, 114, 115, 116, 117, 118] (.two .nil (.two (.two .nil .nil) (.two (.one (.two .nil (.two .nil (.two (.two .nil (.join [(15, (.int .i64))] [] false (.two .nil .nil))) (.two .nil (.two (.two .nil .nil) .nil)))))) .nil)))))) (.two .nil (.two (.join [(2, .bool)] [121, 122, 123, 124, 125, 126, 127, 128, 129, 130, 131, 132, 133, 134, 135, 136, 137, 138, 139, 140, 141, 142, 143, 144, 145, 146, 147, 148, 149] false (.ord 42 [(0, 1073741822), (1, 1073741820), (2, 1073741817), (4, 1073741811), (8, 1073741799), (16, 1073741775), (32, 1073741727), (96, 1073741599), (160, 1073741407), (288, 1073741055), (512, 1073740287), (1536, 1073738239), (2560, 1073735167), (4608, 1073729023), (8704, 1073716735), (16896, 1073692159), (32768, 1073643519), (32768, 1073577983), (32768, 1073446911), (294912, 1072922623), (557056, 1072136191), (1081344, 1070563327), (2260992, 1067286527), (4227072, 1061126143), (8421376, 1048543231), (16809984, 1023377407), (33652736, 972980223), (67142144, 872381951), (134218240, 671088127), (536870911, 268435455)] (.o 0 (.o 1 (.o 2 (.o 3 (.o 4 (.o 5 (.s 126 (.o 6 (.o 7 (.o 8 (.o 9 (.s 130 (.o 10 (.o 11 (.o 12 (.o 13 (.o 14 (.o 15 (.o 16 (.o 17 (.o 18 (.o 19 (.o 20 (.o 21 (.o 22 (.o 23 (.o 24 (.o 25 (.o 26 (.o 27 (.o 28 (.o 29 .done)))))))))))))))))))) (.o 10 (.o 11 (.o 12 (.o 13 (.o 14 (.o 15 (.s 136 (.o 16 (.o 17 (.o 18 (.o 19 (.o 20 (.o 21 (.o 22 (.o 23 (.o 24 (.o 25 (.o 26 (.o 27 (.o 28 (.o 29 .done)))))))))))))) (.o 16 (.o 17 (.o 18 (.o 19 (.o 20 (.o 21 (.o 22 (.o 23 (.o 24 (.o 25 (.o 26 (.o 27 (.o 28 (.o 29 .done)))))))))))))))))))))))))) (.o 6 (.o 7 (.o 8 (.o 9 (.o 10 (.o 11 (.o 12 (.o 13 (.o 14 (.o 15 (.s 136 (.o 16 (.o 17 (.o 18 (.o 19 (.o 20 (.o 21 (.o 22 (.o 23 (.o 24 (.o 25 (.o 26 (.o 27 (.o 28 (.o 29 .done)))))))))))))) (.o 16 (.o 17 (.o 18 (.o 19 (.o 20 (.o 21 (.o 22 (.o 23 (.o 24 (.o 25 (.o 26 (.o 27 (.o 28 (.o 29 .done)))))))))))))))))))))))))))))))))) .nil)))))))))
theorem Cf42_sched_Sched_sound_ok : Cf42_sched_Sched_sound.Ok := mkC_ok mixed tysOk zerosOk eqsOk ⟨Sf30_sched_Sched_of, Sf48_sched_Sched_highest, Sf60_sched_Sched_sound_1, trivial⟩ trivial
theorem Ef42_sched_Sched_sound (x : Option Addr) : evF Cf42_sched_Sched_sound Try.f42 150 .ptr .bool Af42_sched_Sched_sound x = f42_sched_Sched_sound x := by kernel_rfl
theorem Sf42_sched_Sched_sound : SoundF Try.prog 42 ⟨.ptr, .bool, fun x => f42_sched_Sched_sound x⟩ :=
  soundF_of Cf42_sched_Sched_sound_ok Try.func42 (by kernel_rfl) (by kernel_rfl) Ef42_sched_Sched_sound
noncomputable def Cf17_sched_Of : Ctx := mkC Try.prog tys zeros eqs [(8, ⟨.unit, .ptr, fun _ => f8_sched_New⟩), (41, ⟨(.pair .ptr .ptr), (.tup .unit), fun x => f41_sched_Sched_read x.1 x.2⟩), (42, ⟨.ptr, .bool, fun x => f42_sched_Sched_sound x⟩)] []
/-- palaversched.Of -/
noncomputable def f17_sched_Of (x0 : Sl) : M (Option Addr × Int) :=
  bnd f8_sched_New fun (r1 : Option Addr) =>
  bnd (newC 78 [.slice x0.a x0.len x0.cap, .bool false]) fun (p2 : Addr) =>
  bnd (f41_sched_Sched_read r1 (some p2)) fun (r3 : Unit) =>
  bnd (ld .bool (Addr.add p2 1)) fun (v4 : Bool) =>
  bnd (
  cnd v4 (
  ret true) (
  bnd (ld .sl (Addr.add p2 0)) fun (v5 : Sl) =>
  ret (decide ((v5.len : Int) > (0 : Int))))) fun (b6 : Bool) =>
  bnd (
  cnd b6 (
  ret true) (
  bnd (f42_sched_Sched_sound r1) fun (r7 : Bool) =>
  ret (!r7))) fun (b8 : Bool) =>
  cnd b8 (
  ret (none, (266 : Int))) (
  ret (r1, (0 : Int)))
noncomputable def Af17_sched_Of : Ann := (.two .nil (.two .nil (.two .nil (.two (.two .nil (.two (.two .nil .nil) .nil)) (.two .nil .nil)))))
theorem Cf17_sched_Of_ok : Cf17_sched_Of.Ok := mkC_ok mixed tysOk zerosOk eqsOk ⟨Sf8_sched_New, Sf41_sched_Sched_read, Sf42_sched_Sched_sound, trivial⟩ trivial
theorem Ef17_sched_Of (x : Sl) : evF Cf17_sched_Of Try.f17 31 .sl (.tup (.pair .ptr (.int .i64))) Af17_sched_Of x = f17_sched_Of x := by kernel_rfl
theorem Sf17_sched_Of : SoundF Try.prog 17 ⟨.sl, (.tup (.pair .ptr (.int .i64))), fun x => f17_sched_Of x⟩ :=
  soundF_of Cf17_sched_Of_ok Try.func17 (by kernel_rfl) (by kernel_rfl) Ef17_sched_Of
noncomputable def Cf6_palaverlaw26_SchedBack : Ctx := mkC Try.prog tys zeros eqs [(7, ⟨.unit, .bool, fun _ => f7_palaverlaw26_works⟩), (8, ⟨.unit, .ptr, fun _ => f8_sched_New⟩), (9, ⟨.ptr, (.int .i64), fun x => f9_sched_Sched_Active x⟩), (10, ⟨(.pair .ptr (.agg (.pair (.int .i64) (.pair (.int .i64) (.int .i64))))), (.int .i64), fun x => f10_palaverlaw26_call x.1 x.2⟩), (14, ⟨(.pair .sl .sl), .bool, fun x => f14_palaverref00_SameInts x.1 x.2⟩), (16, ⟨.ptr, .sl, fun x => f16_sched_Sched_State x⟩), (17, ⟨.sl, (.tup (.pair .ptr (.int .i64))), fun x => f17_sched_Of x⟩)] []
/-- palaverpalaverlaw26.SchedBack -/
noncomputable def f6_palaverlaw26_SchedBack (x0 : Sl) (x1 : Sl) : M Bool :=
  bnd f7_palaverlaw26_works fun (r1 : Bool) =>
  bnd f8_sched_New fun (r2 : Option Addr) =>
  cnd (Option.isNone r2) (
  ret false) (
  loopM (fun (s3 : Int) =>
  cnd (decide (s3 < (x0.len : Int))) (
  bnd (ix 3 x0 s3) fun (p4 : Addr) =>
  bnd (ld (.agg (.pair (.int .i64) (.pair (.int .i64) (.int .i64)))) p4) fun (v5 : (Int × (Int × Int))) =>
  bnd (f10_palaverlaw26_call r2 v5) fun (r6 : Int) =>
  ret (Sum.inl (IntKind.wrap .i64 (s3 + (1 : Int))))) (
  bnd (
  bnd (f16_sched_Sched_State r2) fun (r7 : Sl) =>
  bnd (f17_sched_Of r7) fun (r8 : (Option Addr × Int)) =>
  cnd (cond (Option.isNone r8.1) true (r8.2 != (0 : Int))) (
  ret false) (
  loopM (fun (s9 : Int) =>
  cnd (decide (s9 < (x1.len : Int))) (
  bnd (ix 3 x1 s9) fun (p10 : Addr) =>
  bnd (ld (.agg (.pair (.int .i64) (.pair (.int .i64) (.int .i64)))) p10) fun (v11 : (Int × (Int × Int))) =>
  bnd (f10_palaverlaw26_call r2 v11) fun (r12 : Int) =>
  bnd (ix 3 x1 s9) fun (p13 : Addr) =>
  bnd (ld (.agg (.pair (.int .i64) (.pair (.int .i64) (.int .i64)))) p13) fun (v14 : (Int × (Int × Int))) =>
  bnd (f10_palaverlaw26_call r8.1 v14) fun (r15 : Int) =>
  bnd (
  cnd (r12 != r15) (
  ret true) (
  bnd (f9_sched_Sched_Active r2) fun (r16 : Int) =>
  bnd (f9_sched_Sched_Active r8.1) fun (r17 : Int) =>
  ret (r16 != r17))) fun (b18 : Bool) =>
  cnd b18 (
  ret (Sum.inr false)) (
  ret (Sum.inl (IntKind.wrap .i64 (s9 + (1 : Int)))))) (
  bnd (
  bnd (f16_sched_Sched_State r2) fun (r19 : Sl) =>
  bnd (f16_sched_Sched_State r8.1) fun (r20 : Sl) =>
  bnd (f14_palaverref00_SameInts r19 r20) fun (r21 : Bool) =>
  ret (cond r1 r21 false)) fun r22 =>
  ret (Sum.inr r22))) (0 : Int))) fun r23 =>
  ret (Sum.inr r23))) (0 : Int))
noncomputable def Af6_palaverlaw26_SchedBack : Ann := (.two .nil (.two .nil (.two .nil (.two (.two .nil (.two (.two .nil .nil) .nil)) (.two (.two .nil (.one (.loop [(7, (.int .i64))] [21, 22, 23, 24, 25, 26, 27, 28, 29, 30, 31, 32] (.two (.two .nil (.two .nil .nil)) (.two (.one .nil) .nil))))) (.two .nil (.two .nil (.two (.two .nil (.two (.two .nil .nil) .nil)) (.two (.two .nil (.one (.loop [(11, (.int .i64))] [4, 12, 13, 46, 47, 48, 49, 50, 51, 52, 53, 54, 55, 56, 57, 58, 59, 60, 61, 62, 63, 64, 65, 66, 67, 68, 69, 70, 71, 72, 73] (.two (.two .nil (.two .nil .nil)) (.two (.one (.two .nil (.two .nil (.two .nil (.two (.two .nil .nil) .nil))))) .nil))))) (.two .nil (.two .nil (.two .nil (.two .nil .nil)))))))))))))
theorem Cf6_palaverlaw26_SchedBack_ok : Cf6_palaverlaw26_SchedBack.Ok := mkC_ok mixed tysOk zerosOk eqsOk ⟨Sf7_palaverlaw26_works, Sf8_sched_New, Sf9_sched_Sched_Active, Sf10_palaverlaw26_call, Sf14_palaverref00_SameInts, Sf16_sched_Sched_State, Sf17_sched_Of, trivial⟩ trivial
theorem Ef6_palaverlaw26_SchedBack (x : (Sl × Sl)) : evF Cf6_palaverlaw26_SchedBack Try.f6 85 (.pair .sl .sl) .bool Af6_palaverlaw26_SchedBack x = f6_palaverlaw26_SchedBack x.1 x.2 := by kernel_rfl
theorem Sf6_palaverlaw26_SchedBack : SoundF Try.prog 6 ⟨(.pair .sl .sl), .bool, fun x => f6_palaverlaw26_SchedBack x.1 x.2⟩ :=
  soundF_of Cf6_palaverlaw26_SchedBack_ok Try.func6 (by kernel_rfl) (by kernel_rfl) Ef6_palaverlaw26_SchedBack
end X
end Go.Proofs.Ytkkdeljladihpaa
