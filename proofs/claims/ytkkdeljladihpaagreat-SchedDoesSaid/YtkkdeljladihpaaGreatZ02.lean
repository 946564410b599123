/-
  Part of the proof: Z02. It states what the functions do; no further condition.
-/
import Derived.Test.YtkkdeljladihpaaGreatZ01
set_option linter.unusedVariables false
set_option linter.unusedSimpArgs false
namespace Go.Proofs.YtkkdeljladihpaaGreat
namespace X
open Go.Sh
set_option maxRecDepth 100000
noncomputable def tys : List (Nat × Ty) := [(3, (.int .i64)),
  (4, .bool),
  (24, .ptr),
  (28, .sl),
  (30, (.agg (.pair (.int .i64) (.pair (.int .i64) (.pair (.int .i64) (.pair (.int .i64) (.pair (.int .i64) (.pair (.int .i64) (.pair (.int .i64) (.pair (.int .i64) (.pair (.int .i64) (.pair (.int .i64) (.pair (.int .i64) (.pair (.int .i64) (.pair (.int .i64) (.pair (.int .i64) (.pair (.int .i64) (.pair (.int .i64) (.pair (.int .i64) (.pair (.int .i64) (.pair (.int .i64) (.pair (.int .i64) (.pair (.int .i64) (.pair (.int .i64) (.pair (.int .i64) (.pair (.int .i64) (.pair (.int .i64) (.pair (.int .i64) (.pair (.int .i64) (.pair (.int .i64) (.pair (.int .i64) (.pair (.int .i64) (.pair (.int .i64) (.pair (.int .i64) (.pair (.int .i64) (.pair (.int .i64) (.pair (.int .i64) (.pair (.int .i64) (.pair (.int .i64) (.pair (.int .i64) (.pair (.int .i64) (.pair (.int .i64) (.pair (.int .i64) (.pair (.int .i64) (.pair (.int .i64) (.pair (.int .i64) (.pair (.int .i64) (.pair (.int .i64) (.pair (.int .i64) (.pair (.int .i64) (.pair (.int .i64) (.pair (.int .i64) (.pair (.int .i64) (.pair (.int .i64) (.pair (.int .i64) (.pair (.int .i64) (.pair (.int .i64) (.pair (.int .i64) (.pair (.int .i64) (.pair (.int .i64) (.pair (.int .i64) (.pair (.int .i64) (.pair (.int .i64) (.pair (.int .i64) (.pair (.int .i64) (.int .i64)))))))))))))))))))))))))))))))))))))))))))))))))))))))))))))))))),
  (61, .sl),
  (62, .sl),
  (64, .sl),
  (65, .sl),
  (70, (.int .u8)),
  (74, (.agg (.pair (.int .i64) (.pair (.int .u8) (.int .i64))))),
  (76, (.agg (.pair (.int .i64) .sl))),
  (79, (.agg (.pair (.int .i64) (.pair (.int .i64) (.int .i64))))),
  (83, (.clo 46 .unit)),
  (111, (.int .u64)),
  (114, (.int .u64)),
  (131, (.int .u32)),
  (140, (.int .i64)),
  (153, (.int .u64)),
  (157, .ptr),
  (159, .ptr)]
theorem tysOk : AllN (fun T t => tyFitsB Tryz.prog T t = true) tys :=
  ⟨(by kernel_rfl : tyFitsB Tryz.prog 3 (.int .i64) = true),
   (by kernel_rfl : tyFitsB Tryz.prog 4 .bool = true),
   (by kernel_rfl : tyFitsB Tryz.prog 24 .ptr = true),
   (by kernel_rfl : tyFitsB Tryz.prog 28 .sl = true),
   (by kernel_rfl : tyFitsB Tryz.prog 30 (.agg (.pair (.int .i64) (.pair (.int .i64) (.pair (.int .i64) (.pair (.int .i64) (.pair (.int .i64) (.pair (.int .i64) (.pair (.int .i64) (.pair (.int .i64) (.pair (.int .i64) (.pair (.int .i64) (.pair (.int .i64) (.pair (.int .i64) (.pair (.int .i64) (.pair (.int .i64) (.pair (.int .i64) (.pair (.int .i64) (.pair (.int .i64) (.pair (.int .i64) (.pair (.int .i64) (.pair (.int .i64) (.pair (.int .i64) (.pair (.int .i64) (.pair (.int .i64) (.pair (.int .i64) (.pair (.int .i64) (.pair (.int .i64) (.pair (.int .i64) (.pair (.int .i64) (.pair (.int .i64) (.pair (.int .i64) (.pair (.int .i64) (.pair (.int .i64) (.pair (.int .i64) (.pair (.int .i64) (.pair (.int .i64) (.pair (.int .i64) (.pair (.int .i64) (.pair (.int .i64) (.pair (.int .i64) (.pair (.int .i64) (.pair (.int .i64) (.pair (.int .i64) (.pair (.int .i64) (.pair (.int .i64) (.pair (.int .i64) (.pair (.int .i64) (.pair (.int .i64) (.pair (.int .i64) (.pair (.int .i64) (.pair (.int .i64) (.pair (.int .i64) (.pair (.int .i64) (.pair (.int .i64) (.pair (.int .i64) (.pair (.int .i64) (.pair (.int .i64) (.pair (.int .i64) (.pair (.int .i64) (.pair (.int .i64) (.pair (.int .i64) (.pair (.int .i64) (.pair (.int .i64) (.pair (.int .i64) (.int .i64))))))))))))))))))))))))))))))))))))))))))))))))))))))))))))))))) = true),
   (by kernel_rfl : tyFitsB Tryz.prog 61 .sl = true),
   (by kernel_rfl : tyFitsB Tryz.prog 62 .sl = true),
   (by kernel_rfl : tyFitsB Tryz.prog 64 .sl = true),
   (by kernel_rfl : tyFitsB Tryz.prog 65 .sl = true),
   (by kernel_rfl : tyFitsB Tryz.prog 70 (.int .u8) = true),
   (by kernel_rfl : tyFitsB Tryz.prog 74 (.agg (.pair (.int .i64) (.pair (.int .u8) (.int .i64)))) = true),
   (by kernel_rfl : tyFitsB Tryz.prog 76 (.agg (.pair (.int .i64) .sl)) = true),
   (by kernel_rfl : tyFitsB Tryz.prog 79 (.agg (.pair (.int .i64) (.pair (.int .i64) (.int .i64)))) = true),
   (by kernel_rfl : tyFitsB Tryz.prog 83 (.clo 46 .unit) = true),
   (by kernel_rfl : tyFitsB Tryz.prog 111 (.int .u64) = true),
   (by kernel_rfl : tyFitsB Tryz.prog 114 (.int .u64) = true),
   (by kernel_rfl : tyFitsB Tryz.prog 131 (.int .u32) = true),
   (by kernel_rfl : tyFitsB Tryz.prog 140 (.int .i64) = true),
   (by kernel_rfl : tyFitsB Tryz.prog 153 (.int .u64) = true),
   (by kernel_rfl : tyFitsB Tryz.prog 157 .ptr = true),
   (by kernel_rfl : tyFitsB Tryz.prog 159 .ptr = true), trivial⟩
noncomputable def zeros : List (Nat × TV) := [(3, ⟨(.int .i64), (0 : Int)⟩),
  (28, ⟨.sl, (Sl.mk none 0 0)⟩),
  (74, ⟨(.agg (.pair (.int .i64) (.pair (.int .u8) (.int .i64)))), ((0 : Int), (0 : Int), (0 : Int))⟩),
  (76, ⟨(.agg (.pair (.int .i64) .sl)), ((0 : Int), (Sl.mk none 0 0))⟩),
  (79, ⟨(.agg (.pair (.int .i64) (.pair (.int .i64) (.int .i64)))), ((0 : Int), (0 : Int), (0 : Int))⟩),
  (153, ⟨(.int .u64), (0 : Int)⟩)]
theorem zerosOk : AllN (fun T (z : TV) => ∃ i, Tryz.prog.info? T = some i ∧ i.zero = some z.v) zeros :=
  ⟨⟨_, (by kernel_rfl : Tryz.prog.info? 3 = some Tryz.t3), rfl⟩,
   ⟨_, (by kernel_rfl : Tryz.prog.info? 28 = some Tryz.t28), rfl⟩,
   ⟨_, (by kernel_rfl : Tryz.prog.info? 74 = some Tryz.t74), rfl⟩,
   ⟨_, (by kernel_rfl : Tryz.prog.info? 76 = some Tryz.t76), rfl⟩,
   ⟨_, (by kernel_rfl : Tryz.prog.info? 79 = some Tryz.t79), rfl⟩,
   ⟨_, (by kernel_rfl : Tryz.prog.info? 153 = some Tryz.t153), rfl⟩, trivial⟩
noncomputable def eqs : List (Nat × Ty) := []
theorem eqsOk : AllN (EqOk Tryz.prog) eqs := trivial
theorem mixed : Tryz.prog.follows .mixedOrders = true := by kernel_rfl
noncomputable def Gf84_cmp_isNaN (x0 : Int) : Bool :=
  (x0 != x0)
noncomputable def Cf84_cmp_isNaN : Ctx := mkC Tryz.prog tys zeros eqs [] []
/-- cmp.isNaNint -/
noncomputable def f84_cmp_isNaN (x0 : Int) : M Bool :=
  ret (x0 != x0)
noncomputable def Af84_cmp_isNaN : Ann := (.two .nil (.two .nil .nil))
theorem Cf84_cmp_isNaN_ok : Cf84_cmp_isNaN.Ok := mkC_ok mixed tysOk zerosOk eqsOk trivial trivial
theorem Ef84_cmp_isNaN (x : Int) : evF Cf84_cmp_isNaN Tryz.f84 6 (.int .i64) .bool Af84_cmp_isNaN x = f84_cmp_isNaN x := by kernel_rfl
theorem Sf84_cmp_isNaN : SoundF Tryz.prog 84 ⟨(.int .i64), .bool, fun x => f84_cmp_isNaN x⟩ :=
  soundF_of Cf84_cmp_isNaN_ok Tryz.func84 (by kernel_rfl) (by kernel_rfl) Ef84_cmp_isNaN
theorem Hf84_cmp_isNaN (x0 : Int) : f84_cmp_isNaN x0 = ret (Gf84_cmp_isNaN x0) := by
  simp only [f84_cmp_isNaN, Gf84_cmp_isNaN, bnd_ret, cnd_ret, bnd_cnd]
theorem Pf84_cmp_isNaN : SoundP Tryz.prog 84 ⟨(.int .i64), .bool, fun x => Gf84_cmp_isNaN x⟩ := soundP_of Sf84_cmp_isNaN fun x => Hf84_cmp_isNaN x
noncomputable def Gf48_cmp_Compare (x0 : Int) (x1 : Int) : Int :=
  (cond (Gf84_cmp_isNaN x0) (cond (Gf84_cmp_isNaN x1) (0 : Int) (-1 : Int)) (cond (Gf84_cmp_isNaN x1) (1 : Int) (cond (decide (x0 < x1)) (-1 : Int) (cond (decide (x0 > x1)) (1 : Int) (0 : Int)))))
noncomputable def Cf48_cmp_Compare : Ctx := mkC Tryz.prog tys zeros eqs [] [(84, ⟨(.int .i64), .bool, fun x => Gf84_cmp_isNaN x⟩)]
/-- cmp.Compareint -/
noncomputable def f48_cmp_Compare (x0 : Int) (x1 : Int) : M Int :=
  cnd (Gf84_cmp_isNaN x0) (
  cnd (Gf84_cmp_isNaN x1) (
  ret (0 : Int)) (
  ret (-1 : Int))) (
  cnd (Gf84_cmp_isNaN x1) (
  ret (1 : Int)) (
  cnd (decide (x0 < x1)) (
  ret (-1 : Int)) (
  cnd (decide (x0 > x1)) (
  ret (1 : Int)) (
  ret (0 : Int)))))
noncomputable def Af48_cmp_Compare : Ann := (.two .nil (.two .nil (.two .nil (.two (.two .nil (.two (.two (.two .nil (.two (.two .nil .nil) .nil)) (.two .nil .nil)) .nil)) (.two (.two .nil (.two (.two .nil .nil) .nil)) (.two (.two .nil (.two (.two .nil .nil) .nil)) (.two (.two .nil (.two (.two .nil .nil) .nil)) (.two .nil .nil))))))))
theorem Cf48_cmp_Compare_ok : Cf48_cmp_Compare.Ok := mkC_ok mixed tysOk zerosOk eqsOk trivial ⟨Pf84_cmp_isNaN, trivial⟩
theorem Ef48_cmp_Compare (x : (Int × Int)) : evF Cf48_cmp_Compare Tryz.f48 20 (.pair (.int .i64) (.int .i64)) (.int .i64) Af48_cmp_Compare x = f48_cmp_Compare x.1 x.2 := by kernel_rfl
theorem Sf48_cmp_Compare : SoundF Tryz.prog 48 ⟨(.pair (.int .i64) (.int .i64)), (.int .i64), fun x => f48_cmp_Compare x.1 x.2⟩ :=
  soundF_of Cf48_cmp_Compare_ok Tryz.func48 (by kernel_rfl) (by kernel_rfl) Ef48_cmp_Compare
theorem Hf48_cmp_Compare (x0 : Int) (x1 : Int) : f48_cmp_Compare x0 x1 = ret (Gf48_cmp_Compare x0 x1) := by
  simp only [f48_cmp_Compare, Gf48_cmp_Compare, bnd_ret, cnd_ret, bnd_cnd]
theorem Pf48_cmp_Compare : SoundP Tryz.prog 48 ⟨(.pair (.int .i64) (.int .i64)), (.int .i64), fun x => Gf48_cmp_Compare x.1 x.2⟩ := soundP_of Sf48_cmp_Compare fun x => Hf48_cmp_Compare x.1 x.2
noncomputable def Cf47_cmp_Or : Ctx := mkC Tryz.prog tys zeros eqs [] []
/-- cmp.Orint -/
noncomputable def f47_cmp_Or (x0 : Sl) : M Int :=
  loopM (fun (s1 : Int) =>
  cnd (decide (s1 < (x0.len : Int))) (
  bnd (ix 1 x0 s1) fun (p2 : Addr) =>
  bnd (ld (.int .i64) p2) fun (v3 : Int) =>
  cnd (v3 != (0 : Int)) (
  ret (Sum.inr v3)) (
  ret (Sum.inl (IntKind.wrap .i64 (s1 + (1 : Int)))))) (
  ret (Sum.inr (0 : Int)))) (0 : Int)
noncomputable def Af47_cmp_Or : Ann := (.two .nil (.two .nil (.two (.two .nil (.one (.loop [(8, (.int .i64))] [2, 5, 9, 10, 11, 12, 13, 14, 15, 16] (.two .nil (.two (.two .nil .nil) (.two (.one (.two .nil (.two .nil (.two (.two .nil .nil) .nil)))) .nil)))))) (.two .nil .nil))))
theorem Cf47_cmp_Or_ok : Cf47_cmp_Or.Ok := mkC_ok mixed tysOk zerosOk eqsOk trivial trivial
theorem Ef47_cmp_Or (x : Sl) : evF Cf47_cmp_Or Tryz.f47 18 .sl (.int .i64) Af47_cmp_Or x = f47_cmp_Or x := by kernel_rfl
theorem Sf47_cmp_Or : SoundF Tryz.prog 47 ⟨.sl, (.int .i64), fun x => f47_cmp_Or x⟩ :=
  soundF_of Cf47_cmp_Or_ok Tryz.func47 (by kernel_rfl) (by kernel_rfl) Ef47_cmp_Or
noncomputable def Cf46_State_2 : Ctx := mkC Tryz.prog tys zeros eqs [(47, ⟨.sl, (.int .i64), fun x => f47_cmp_Or x⟩)] [(48, ⟨(.pair (.int .i64) (.int .i64)), (.int .i64), fun x => Gf48_cmp_Compare x.1 x.2⟩)]
/-- (*palaversched.Sched).State$2 -/
noncomputable def f46_State_2 (x0 : (Int × (Int × Int))) (x1 : (Int × (Int × Int))) : M Int :=
  bnd (newC 79 [.int .i64 x0.1, .int .i64 x0.2.1, .int .i64 x0.2.2]) fun (p1 : Addr) =>
  bnd (newC 79 [.int .i64 x1.1, .int .i64 x1.2.1, .int .i64 x1.2.2]) fun (p2 : Addr) =>
  bnd (
  bnd (ordM 46 1 (regionIn 1 Tryz.f46)) fun (o4 : List Nat) =>
  bnd (ld (.int .i64) (Addr.add p1 0)) fun (v5 : Int) =>
  bnd (ld (.int .i64) (Addr.add p2 0)) fun (v6 : Int) =>
  bnd (ld (.int .i64) (Addr.add p1 1)) fun (v7 : Int) =>
  bnd (ld (.int .i64) (Addr.add p2 1)) fun (v8 : Int) =>
  bnd (
  bnd (chk (.int .i64) (Addr.add p2 1) v8) fun _ =>
  bnd (chk (.int .i64) (Addr.add p1 1) v7) fun _ =>
  ret ()) fun _ =>
  bnd (ret ()) fun _ =>
  bnd (runV Tryz.prog .sl (Instr.buildSlice 28 2 #[(0, .int .i64 (Gf48_cmp_Compare v5 v6)), (1, .int .i64 (Gf48_cmp_Compare v7 v8))])) fun (v9 : Sl) =>
  bnd (ret ()) fun _ =>
  bnd (f47_cmp_Or v9) fun (r10 : Int) =>
  bnd (ret ()) fun _ =>
  ret r10) fun (s3 : Int) =>
  ret s3
noncomputable def Af46_State_2 : Ann := (.two .nil (.two (.join [(4, (.int .i64))] [5, 6, 7, 8, 9, 10, 11, 12, 13, 14, 15, 16] false (.ord 46 [(0, 8190), (1, 8188), (0, 8187), (4, 8179), (10, 8165), (0, 8159), (32, 8095), (0, 8063), (128, 7807), (336, 7359), (528, 6639), (1536, 5119), (4095, 2047)] (.o 0 (.o 1 (.o 2 (.o 3 (.o 5 (.o 6 (.o 7 (.o 8 (.o 4 (.o 9 (.o 10 (.o 11 (.o 12 .done))))))))))))))) .nil))
theorem Cf46_State_2_ok : Cf46_State_2.Ok := mkC_ok mixed tysOk zerosOk eqsOk ⟨Sf47_cmp_Or, trivial⟩ ⟨Pf48_cmp_Compare, trivial⟩
theorem Ef46_State_2 (x : ((Int × (Int × Int)) × (Int × (Int × Int)))) : evF Cf46_State_2 Tryz.f46 17 (.pair (.agg (.pair (.int .i64) (.pair (.int .i64) (.int .i64)))) (.agg (.pair (.int .i64) (.pair (.int .i64) (.int .i64))))) (.int .i64) Af46_State_2 x = f46_State_2 x.1 x.2 := by kernel_rfl
theorem Sf46_State_2 : SoundF Tryz.prog 46 ⟨(.pair (.agg (.pair (.int .i64) (.pair (.int .i64) (.int .i64)))) (.agg (.pair (.int .i64) (.pair (.int .i64) (.int .i64))))), (.int .i64), fun x => f46_State_2 x.1 x.2⟩ :=
  soundF_of Cf46_State_2_ok Tryz.func46 (by kernel_rfl) (by kernel_rfl) Ef46_State_2
noncomputable def Cf43_State_1 : Ctx := mkC Tryz.prog tys zeros eqs [] []
/-- (*palaversched.Sched).State$1 -/
noncomputable def f43_State_1 (x0 : Sl) (x1 : Addr) : M Unit :=
  bnd (ld .sl x1) fun (v1 : Sl) =>
  bnd (runV Tryz.prog .sl (Instr.buildSlice 28 1 #[(0, .int .i64 (x0.len : Int))])) fun (v2 : Sl) =>
  bnd (runV Tryz.prog .sl (Builtin.append_ #[28, 28] 28 #[.slice v1.a v1.len v1.cap, .slice v2.a v2.len v2.cap])) fun (v3 : Sl) =>
  bnd (wrs x1 0 [.slice v3.a v3.len v3.cap]) fun _ =>
  bnd (ld .sl x1) fun (v4 : Sl) =>
  bnd (runV Tryz.prog .sl (Builtin.append_ #[28, 28] 28 #[.slice v4.a v4.len v4.cap, .slice x0.a x0.len x0.cap])) fun (v5 : Sl) =>
  bnd (wrs x1 0 [.slice v5.a v5.len v5.cap]) fun _ =>
  ret ()
noncomputable def Af43_State_1 : Ann := (.two .nil .nil)
theorem Cf43_State_1_ok : Cf43_State_1.Ok := mkC_ok mixed tysOk zerosOk eqsOk trivial trivial
theorem Ef43_State_1 (x : (Sl × Addr)) : evF Cf43_State_1 Tryz.f43 11 (.pair .sl .adr) (.tup .unit) Af43_State_1 x = f43_State_1 x.1 x.2 := by kernel_rfl
theorem Sf43_State_1 : SoundF Tryz.prog 43 ⟨(.pair .sl .adr), (.tup .unit), fun x => f43_State_1 x.1 x.2⟩ :=
  soundF_of Cf43_State_1_ok Tryz.func43 (by kernel_rfl) (by kernel_rfl) Ef43_State_1
noncomputable def Cf44_Clonetm : Ctx := mkC Tryz.prog tys zeros eqs [] []
/-- slices.Clonepalaversched.timerspalaversched.timer -/
noncomputable def f44_Clonetm (x0 : Sl) : M Sl :=
  cnd (Option.isNone x0.a) (
  ret (Sl.mk none 0 0)) (
  bnd (runV Tryz.prog .sl (Instr.buildSlice 65 0 #[])) fun (v1 : Sl) =>
  bnd (runV Tryz.prog .sl (Builtin.append_ #[65, 65] 65 #[.slice v1.a v1.len v1.cap, .slice x0.a x0.len x0.cap])) fun (v2 : Sl) =>
  ret v2)
noncomputable def Af44_Clonetm : Ann := (.two .nil (.two (.two .nil (.two (.two .nil .nil) .nil)) (.two .nil .nil)))
theorem Cf44_Clonetm_ok : Cf44_Clonetm.Ok := mkC_ok mixed tysOk zerosOk eqsOk trivial trivial
theorem Ef44_Clonetm (x : Sl) : evF Cf44_Clonetm Tryz.f44 8 .sl .sl Af44_Clonetm x = f44_Clonetm x := by kernel_rfl
theorem Sf44_Clonetm : SoundF Tryz.prog 44 ⟨.sl, .sl, fun x => f44_Clonetm x⟩ :=
  soundF_of Cf44_Clonetm_ok Tryz.func44 (by kernel_rfl) (by kernel_rfl) Ef44_Clonetm
noncomputable def Cf103_bits_Len64 : Ctx := mkC Tryz.prog tys zeros eqs [] []
/-- mathbits.Len64 -/
noncomputable def f103_bits_Len64 (x0 : Int) : M Int :=
  bnd (
  cnd (decide (x0 ≥ (4294967296 : Int))) (
  ret ((shrI .u64 x0 32), (32 : Int))) (
  ret (x0, (0 : Int)))) fun (s1 : (Int × Int)) =>
  bnd (
  cnd (decide (s1.1 ≥ (65536 : Int))) (
  ret ((shrI .u64 s1.1 16), (IntKind.wrap .i64 (s1.2 + (16 : Int))))) (
  ret (s1.1, s1.2))) fun (s2 : (Int × Int)) =>
  bnd (
  cnd (decide (s2.1 ≥ (256 : Int))) (
  ret ((shrI .u64 s2.1 8), (IntKind.wrap .i64 (s2.2 + (8 : Int))))) (
  ret (s2.1, s2.2))) fun (s3 : (Int × Int)) =>
  bnd (ixS (ByteArray.mk #[0, 1, 2, 2, 3, 3, 3, 3, 4, 4, 4, 4, 4, 4, 4, 4, 5, 5, 5, 5, 5, 5, 5, 5, 5, 5, 5, 5, 5, 5, 5, 5, 6, 6, 6, 6, 6, 6, 6, 6, 6, 6, 6, 6, 6, 6, 6, 6, 6, 6, 6, 6, 6, 6, 6, 6, 6, 6, 6, 6, 6, 6, 6, 6, 7, 7, 7, 7, 7, 7, 7, 7, 7, 7, 7, 7, 7, 7, 7, 7, 7, 7, 7, 7, 7, 7, 7, 7, 7, 7, 7, 7, 7, 7, 7, 7, 7, 7, 7, 7, 7, 7, 7, 7, 7, 7, 7, 7, 7, 7, 7, 7, 7, 7, 7, 7, 7, 7, 7, 7, 7, 7, 7, 7, 7, 7, 7, 7, 8, 8, 8, 8, 8, 8, 8, 8, 8, 8, 8, 8, 8, 8, 8, 8, 8, 8, 8, 8, 8, 8, 8, 8, 8, 8, 8, 8, 8, 8, 8, 8, 8, 8, 8, 8, 8, 8, 8, 8, 8, 8, 8, 8, 8, 8, 8, 8, 8, 8, 8, 8, 8, 8, 8, 8, 8, 8, 8, 8, 8, 8, 8, 8, 8, 8, 8, 8, 8, 8, 8, 8, 8, 8, 8, 8, 8, 8, 8, 8, 8, 8, 8, 8, 8, 8, 8, 8, 8, 8, 8, 8, 8, 8, 8, 8, 8, 8, 8, 8, 8, 8, 8, 8, 8, 8, 8, 8, 8, 8, 8, 8, 8, 8, 8, 8, 8, 8, 8, 8, 8, 8, 8, 8, 8, 8, 8, 8]) (IntKind.wrap .u8 s3.1)) fun (v4 : Int) =>
  ret (IntKind.wrap .i64 (s3.2 + (IntKind.wrap .i64 v4)))
noncomputable def Af103_bits_Len64 : Ann := (.two .nil (.two (.two .nil (.join [(0, (.int .u64)), (2, (.int .i64))] [5, 6] false (.two (.two .nil .nil) .nil))) (.two (.two .nil (.join [(0, (.int .u64)), (2, (.int .i64))] [9, 10, 11, 12] false (.two (.two .nil .nil) .nil))) (.two (.two .nil (.join [(0, (.int .u64)), (2, (.int .i64))] [15, 16, 17, 18] false (.two (.two .nil .nil) .nil))) (.two .nil .nil)))))
theorem Cf103_bits_Len64_ok : Cf103_bits_Len64.Ok := mkC_ok mixed tysOk zerosOk eqsOk trivial trivial
theorem Ef103_bits_Len64 (x : Int) : evF Cf103_bits_Len64 Tryz.f103 25 (.int .u64) (.int .i64) Af103_bits_Len64 x = f103_bits_Len64 x := by kernel_rfl
theorem Sf103_bits_Len64 : SoundF Tryz.prog 103 ⟨(.int .u64), (.int .i64), fun x => f103_bits_Len64 x⟩ :=
  soundF_of Cf103_bits_Len64_ok Tryz.func103 (by kernel_rfl) (by kernel_rfl) Ef103_bits_Len64
noncomputable def Cf102_bits_Len32 : Ctx := mkC Tryz.prog tys zeros eqs [] []
/-- mathbits.Len32 -/
noncomputable def f102_bits_Len32 (x0 : Int) : M Int :=
  bnd (
  cnd (decide (x0 ≥ (65536 : Int))) (
  ret ((shrI .u32 x0 16), (16 : Int))) (
  ret (x0, (0 : Int)))) fun (s1 : (Int × Int)) =>
  bnd (
  cnd (decide (s1.1 ≥ (256 : Int))) (
  ret ((shrI .u32 s1.1 8), (IntKind.wrap .i64 (s1.2 + (8 : Int))))) (
  ret (s1.1, s1.2))) fun (s2 : (Int × Int)) =>
  bnd (ixS (ByteArray.mk #[0, 1, 2, 2, 3, 3, 3, 3, 4, 4, 4, 4, 4, 4, 4, 4, 5, 5, 5, 5, 5, 5, 5, 5, 5, 5, 5, 5, 5, 5, 5, 5, 6, 6, 6, 6, 6, 6, 6, 6, 6, 6, 6, 6, 6, 6, 6, 6, 6, 6, 6, 6, 6, 6, 6, 6, 6, 6, 6, 6, 6, 6, 6, 6, 7, 7, 7, 7, 7, 7, 7, 7, 7, 7, 7, 7, 7, 7, 7, 7, 7, 7, 7, 7, 7, 7, 7, 7, 7, 7, 7, 7, 7, 7, 7, 7, 7, 7, 7, 7, 7, 7, 7, 7, 7, 7, 7, 7, 7, 7, 7, 7, 7, 7, 7, 7, 7, 7, 7, 7, 7, 7, 7, 7, 7, 7, 7, 7, 8, 8, 8, 8, 8, 8, 8, 8, 8, 8, 8, 8, 8, 8, 8, 8, 8, 8, 8, 8, 8, 8, 8, 8, 8, 8, 8, 8, 8, 8, 8, 8, 8, 8, 8, 8, 8, 8, 8, 8, 8, 8, 8, 8, 8, 8, 8, 8, 8, 8, 8, 8, 8, 8, 8, 8, 8, 8, 8, 8, 8, 8, 8, 8, 8, 8, 8, 8, 8, 8, 8, 8, 8, 8, 8, 8, 8, 8, 8, 8, 8, 8, 8, 8, 8, 8, 8, 8, 8, 8, 8, 8, 8, 8, 8, 8, 8, 8, 8, 8, 8, 8, 8, 8, 8, 8, 8, 8, 8, 8, 8, 8, 8, 8, 8, 8, 8, 8, 8, 8, 8, 8, 8, 8, 8, 8, 8, 8]) (IntKind.wrap .u8 s2.1)) fun (v3 : Int) =>
  ret (IntKind.wrap .i64 (s2.2 + (IntKind.wrap .i64 v3)))
noncomputable def Af102_bits_Len32 : Ann := (.two .nil (.two (.two .nil (.join [(0, (.int .u32)), (2, (.int .i64))] [5, 6] false (.two (.two .nil .nil) .nil))) (.two (.two .nil (.join [(0, (.int .u32)), (2, (.int .i64))] [9, 10, 11, 12] false (.two (.two .nil .nil) .nil))) (.two .nil .nil))))
theorem Cf102_bits_Len32_ok : Cf102_bits_Len32.Ok := mkC_ok mixed tysOk zerosOk eqsOk trivial trivial
theorem Ef102_bits_Len32 (x : Int) : evF Cf102_bits_Len32 Tryz.f102 19 (.int .u32) (.int .i64) Af102_bits_Len32 x = f102_bits_Len32 x := by kernel_rfl
theorem Sf102_bits_Len32 : SoundF Tryz.prog 102 ⟨(.int .u32), (.int .i64), fun x => f102_bits_Len32 x⟩ :=
  soundF_of Cf102_bits_Len32_ok Tryz.func102 (by kernel_rfl) (by kernel_rfl) Ef102_bits_Len32
noncomputable def Cf83_bits_Len : Ctx := mkC Tryz.prog tys zeros eqs [(102, ⟨(.int .u32), (.int .i64), fun x => f102_bits_Len32 x⟩), (103, ⟨(.int .u64), (.int .i64), fun x => f103_bits_Len64 x⟩)] []
/-- mathbits.Len -/
noncomputable def f83_bits_Len (x0 : Int) : M Int :=
  cnd false (
  bnd (f102_bits_Len32 (IntKind.wrap .u32 x0)) fun (r1 : Int) =>
  ret r1) (
  bnd (f103_bits_Len64 x0) fun (r2 : Int) =>
  ret r2)
noncomputable def Af83_bits_Len : Ann := (.two .nil (.two (.two (.two .nil .nil) .nil) (.two .nil .nil)))
theorem Cf83_bits_Len_ok : Cf83_bits_Len.Ok := mkC_ok mixed tysOk zerosOk eqsOk ⟨Sf102_bits_Len32, Sf103_bits_Len64, trivial⟩ trivial
theorem Ef83_bits_Len (x : Int) : evF Cf83_bits_Len Tryz.f83 8 (.int .u64) (.int .i64) Af83_bits_Len x = f83_bits_Len x := by kernel_rfl
theorem Sf83_bits_Len : SoundF Tryz.prog 83 ⟨(.int .u64), (.int .i64), fun x => f83_bits_Len x⟩ :=
  soundF_of Cf83_bits_Len_ok Tryz.func83 (by kernel_rfl) (by kernel_rfl) Ef83_bits_Len
noncomputable def Cf111_order2 : Ctx := mkC Tryz.prog tys zeros eqs [(46, ⟨(.pair (.agg (.pair (.int .i64) (.pair (.int .i64) (.int .i64)))) (.agg (.pair (.int .i64) (.pair (.int .i64) (.int .i64))))), (.int .i64), fun x => f46_State_2 x.1 x.2⟩)] []
/-- slices.order2CmpFuncpalaversched.timer -/
noncomputable def f111_order2 (x0 : Sl) (x1 : Int) (x2 : Int) (x3 : Option Addr) (x4 : Unit) : M (Int × Int) :=
  bnd (
  bnd (ordM 111 1 (regionIn 1 Tryz.f111)) fun (o2 : List Nat) =>
  bnd (ix 3 x0 x2) fun (p3 : Addr) =>
  bnd (ld (.agg (.pair (.int .i64) (.pair (.int .i64) (.int .i64)))) p3) fun (v4 : (Int × (Int × Int))) =>
  bnd (ix 3 x0 x1) fun (p5 : Addr) =>
  bnd (ld (.agg (.pair (.int .i64) (.pair (.int .i64) (.int .i64)))) p5) fun (v6 : (Int × (Int × Int))) =>
  bnd (f46_State_2 v4 v6) fun (r7 : Int) =>
  bnd (ret ()) fun _ =>
  ret (decide (r7 < (0 : Int)))) fun (s1 : Bool) =>
  cnd s1 (
  bnd (drf x3) fun (p8 : Addr) =>
  bnd (ld (.int .i64) p8) fun (v9 : Int) =>
  bnd (drf x3) fun (p10 : Addr) =>
  bnd (wrs p10 0 [.int .i64 (IntKind.wrap .i64 (v9 + (1 : Int)))]) fun _ =>
  ret (x2, x1)) (
  ret (x1, x2))
noncomputable def Af111_order2 : Ann := (.two .nil (.two (.two (.join [(22, .bool)] [12, 13, 14, 15, 16, 17, 18, 19, 20, 21] false (.ord 111 [(0, 2046), (0, 2045), (0, 2043), (6, 2033), (8, 2023), (0, 2015), (0, 1983), (96, 1823), (128, 1663), (273, 1262), (512, 511)] (.o 0 (.o 1 (.o 2 (.o 3 (.o 4 (.o 5 (.o 6 (.o 7 (.o 8 (.o 9 (.o 10 .done))))))))))))) (.two (.two .nil (.two .nil .nil)) .nil)) (.two .nil .nil)))
theorem Cf111_order2_ok : Cf111_order2.Ok := mkC_ok mixed tysOk zerosOk eqsOk ⟨Sf46_State_2, trivial⟩ trivial
theorem Ef111_order2 (x : (Sl × (Int × (Int × (Option Addr × Unit))))) : evF Cf111_order2 Tryz.f111 32 (.pair .sl (.pair (.int .i64) (.pair (.int .i64) (.pair .ptr (.clo 46 .unit))))) (.tup (.pair (.int .i64) (.int .i64))) Af111_order2 x = f111_order2 x.1 x.2.1 x.2.2.1 x.2.2.2.1 x.2.2.2.2 := by kernel_rfl
theorem Sf111_order2 : SoundF Tryz.prog 111 ⟨(.pair .sl (.pair (.int .i64) (.pair (.int .i64) (.pair .ptr (.clo 46 .unit))))), (.tup (.pair (.int .i64) (.int .i64))), fun x => f111_order2 x.1 x.2.1 x.2.2.1 x.2.2.2.1 x.2.2.2.2⟩ :=
  soundF_of Cf111_order2_ok Tryz.func111 (by kernel_rfl) (by kernel_rfl) Ef111_order2
noncomputable def Cf110_median : Ctx := mkC Tryz.prog tys zeros eqs [(111, ⟨(.pair .sl (.pair (.int .i64) (.pair (.int .i64) (.pair .ptr (.clo 46 .unit))))), (.tup (.pair (.int .i64) (.int .i64))), fun x => f111_order2 x.1 x.2.1 x.2.2.1 x.2.2.2.1 x.2.2.2.2⟩)] []
/-- slices.medianCmpFuncpalaversched.timer -/
noncomputable def f110_median (x0 : Sl) (x1 : Int) (x2 : Int) (x3 : Int) (x4 : Option Addr) (x5 : Unit) : M Int :=
  bnd (f111_order2 x0 x1 x2 x4 x5) fun (r1 : (Int × Int)) =>
  bnd (f111_order2 x0 r1.2 x3 x4 x5) fun (r2 : (Int × Int)) =>
  bnd (f111_order2 x0 r1.1 r2.1 x4 x5) fun (r3 : (Int × Int)) =>
  ret r3.2
noncomputable def Af110_median : Ann := (.two .nil (.two .nil (.two .nil (.two .nil (.two .nil .nil)))))
theorem Cf110_median_ok : Cf110_median.Ok := mkC_ok mixed tysOk zerosOk eqsOk ⟨Sf111_order2, trivial⟩ trivial
theorem Ef110_median (x : (Sl × (Int × (Int × (Int × (Option Addr × Unit)))))) : evF Cf110_median Tryz.f110 41 (.pair .sl (.pair (.int .i64) (.pair (.int .i64) (.pair (.int .i64) (.pair .ptr (.clo 46 .unit)))))) (.int .i64) Af110_median x = f110_median x.1 x.2.1 x.2.2.1 x.2.2.2.1 x.2.2.2.2.1 x.2.2.2.2.2 := by kernel_rfl
theorem Sf110_median : SoundF Tryz.prog 110 ⟨(.pair .sl (.pair (.int .i64) (.pair (.int .i64) (.pair (.int .i64) (.pair .ptr (.clo 46 .unit)))))), (.int .i64), fun x => f110_median x.1 x.2.1 x.2.2.1 x.2.2.2.1 x.2.2.2.2.1 x.2.2.2.2.2⟩ :=
  soundF_of Cf110_median_ok Tryz.func110 (by kernel_rfl) (by kernel_rfl) Ef110_median
noncomputable def Cf109_medianAdj : Ctx := mkC Tryz.prog tys zeros eqs [(110, ⟨(.pair .sl (.pair (.int .i64) (.pair (.int .i64) (.pair (.int .i64) (.pair .ptr (.clo 46 .unit)))))), (.int .i64), fun x => f110_median x.1 x.2.1 x.2.2.1 x.2.2.2.1 x.2.2.2.2.1 x.2.2.2.2.2⟩)] []
/-- slices.medianAdjacentCmpFuncpalaversched.timer -/
noncomputable def f109_medianAdj (x0 : Sl) (x1 : Int) (x2 : Option Addr) (x3 : Unit) : M Int :=
  bnd (f110_median x0 (IntKind.wrap .i64 (x1 - (1 : Int))) x1 (IntKind.wrap .i64 (x1 + (1 : Int))) x2 x3) fun (r1 : Int) =>
  ret r1
noncomputable def Af109_medianAdj : Ann := (.two .nil (.two .nil .nil))
theorem Cf109_medianAdj_ok : Cf109_medianAdj.Ok := mkC_ok mixed tysOk zerosOk eqsOk ⟨Sf110_median, trivial⟩ trivial
theorem Ef109_medianAdj (x : (Sl × (Int × (Option Addr × Unit)))) : evF Cf109_medianAdj Tryz.f109 18 (.pair .sl (.pair (.int .i64) (.pair .ptr (.clo 46 .unit)))) (.int .i64) Af109_medianAdj x = f109_medianAdj x.1 x.2.1 x.2.2.1 x.2.2.2 := by kernel_rfl
theorem Sf109_medianAdj : SoundF Tryz.prog 109 ⟨(.pair .sl (.pair (.int .i64) (.pair .ptr (.clo 46 .unit)))), (.int .i64), fun x => f109_medianAdj x.1 x.2.1 x.2.2.1 x.2.2.2⟩ :=
  soundF_of Cf109_medianAdj_ok Tryz.func109 (by kernel_rfl) (by kernel_rfl) Ef109_medianAdj
noncomputable def Cf108_slices_xorshift_Next : Ctx := mkC Tryz.prog tys zeros eqs [] []
/-- (*slices.xorshift).Next -/
noncomputable def f108_slices_xorshift_Next (x0 : Option Addr) : M Int :=
  bnd (
  bnd (ordM 108 1 (regionIn 1 Tryz.f108)) fun (o2 : List Nat) =>
  bnd (drf x0) fun (p3 : Addr) =>
  bnd (ld (.int .u64) p3) fun (v4 : Int) =>
  bnd (drf x0) fun (p5 : Addr) =>
  bnd (ld (.int .u64) p5) fun (v6 : Int) =>
  bnd (drf x0) fun (p7 : Addr) =>
  bnd (wrs p7 0 [.int .u64 (bXor .u64 v4 (shlI .u64 v6 13))]) fun _ =>
  bnd (ret ()) fun _ =>
  ret ()) fun (s1 : Unit) =>
  bnd (
  bnd (ordM 108 2 (regionIn 2 Tryz.f108)) fun (o9 : List Nat) =>
  bnd (drf x0) fun (p10 : Addr) =>
  bnd (ld (.int .u64) p10) fun (v11 : Int) =>
  bnd (drf x0) fun (p12 : Addr) =>
  bnd (ld (.int .u64) p12) fun (v13 : Int) =>
  bnd (drf x0) fun (p14 : Addr) =>
  bnd (wrs p14 0 [.int .u64 (bXor .u64 v11 (shrI .u64 v13 7))]) fun _ =>
  bnd (ret ()) fun _ =>
  ret ()) fun (s8 : Unit) =>
  bnd (
  bnd (ordM 108 3 (regionIn 3 Tryz.f108)) fun (o16 : List Nat) =>
  bnd (drf x0) fun (p17 : Addr) =>
  bnd (ld (.int .u64) p17) fun (v18 : Int) =>
  bnd (drf x0) fun (p19 : Addr) =>
  bnd (ld (.int .u64) p19) fun (v20 : Int) =>
  bnd (drf x0) fun (p21 : Addr) =>
  bnd (wrs p21 0 [.int .u64 (bXor .u64 v18 (shlI .u64 v20 17))]) fun _ =>
  bnd (ret ()) fun _ =>
  ret ()) fun (s15 : Unit) =>
  bnd (drf x0) fun (p22 : Addr) =>
  bnd (ld (.int .u64) p22) fun (v23 : Int) =>
  ret v23
noncomputable def Af108_slices_xorshift_Next : Ann := (.two .nil (.two (.join [] [3, 4, 5, 6, 7, 8, 9, 10, 11] false (.ord 108 [(0, 1022), (1, 1020), (2, 1017), (0, 1015), (8, 999), (16, 975), (32, 927), (68, 827), (255, 766), (511, 127)] (.o 0 (.o 1 (.o 2 (.o 3 (.o 4 (.o 5 (.o 6 (.o 7 (.o 8 (.o 9 .done)))))))))))) (.two (.join [] [12, 13, 14, 15, 16, 17, 18, 19, 20] false (.ord 108 [(0, 1022), (1, 1020), (2, 1017), (0, 1015), (8, 999), (16, 975), (32, 927), (68, 827), (255, 766), (511, 127)] (.o 0 (.o 1 (.o 2 (.o 3 (.o 4 (.o 5 (.o 6 (.o 7 (.o 8 (.o 9 .done)))))))))))) (.two (.join [] [21, 22, 23, 24, 25, 26, 27, 28, 29] false (.ord 108 [(0, 1022), (1, 1020), (2, 1017), (0, 1015), (8, 999), (16, 975), (32, 927), (68, 827), (255, 766), (511, 127)] (.o 0 (.o 1 (.o 2 (.o 3 (.o 4 (.o 5 (.o 6 (.o 7 (.o 8 (.o 9 .done)))))))))))) (.two .nil .nil)))))
theorem Cf108_slices_xorshift_Next_ok : Cf108_slices_xorshift_Next.Ok := mkC_ok mixed tysOk zerosOk eqsOk trivial trivial
theorem Ef108_slices_xorshift_Next (x : Option Addr) : evF Cf108_slices_xorshift_Next Tryz.f108 33 .ptr (.int .u64) Af108_slices_xorshift_Next x = f108_slices_xorshift_Next x := by kernel_rfl
theorem Sf108_slices_xorshift_Next : SoundF Tryz.prog 108 ⟨.ptr, (.int .u64), fun x => f108_slices_xorshift_Next x⟩ :=
  soundF_of Cf108_slices_xorshift_Next_ok Tryz.func108 (by kernel_rfl) (by kernel_rfl) Ef108_slices_xorshift_Next
noncomputable def Cf107_slices_nextPowerOfTwo : Ctx := mkC Tryz.prog tys zeros eqs [(83, ⟨(.int .u64), (.int .i64), fun x => f83_bits_Len x⟩)] []
/-- slices.nextPowerOfTwo -/
noncomputable def f107_slices_nextPowerOfTwo (x0 : Int) : M Int :=
  bnd (f83_bits_Len (IntKind.wrap .u64 x0)) fun (r1 : Int) =>
  bnd (cnt r1) fun (c2 : Nat) =>
  ret (shlI .u64 (1 : Int) c2)
noncomputable def Af107_slices_nextPowerOfTwo : Ann := (.two .nil (.two .nil .nil))
theorem Cf107_slices_nextPowerOfTwo_ok : Cf107_slices_nextPowerOfTwo.Ok := mkC_ok mixed tysOk zerosOk eqsOk ⟨Sf83_bits_Len, trivial⟩ trivial
theorem Ef107_slices_nextPowerOfTwo (x : Int) : evF Cf107_slices_nextPowerOfTwo Tryz.f107 7 (.int .i64) (.int .u64) Af107_slices_nextPowerOfTwo x = f107_slices_nextPowerOfTwo x := by kernel_rfl
theorem Sf107_slices_nextPowerOfTwo : SoundF Tryz.prog 107 ⟨(.int .i64), (.int .u64), fun x => f107_slices_nextPowerOfTwo x⟩ :=
  soundF_of Cf107_slices_nextPowerOfTwo_ok Tryz.func107 (by kernel_rfl) (by kernel_rfl) Ef107_slices_nextPowerOfTwo
noncomputable def Cf106_siftDown : Ctx := mkC Tryz.prog tys zeros eqs [(46, ⟨(.pair (.agg (.pair (.int .i64) (.pair (.int .i64) (.int .i64)))) (.agg (.pair (.int .i64) (.pair (.int .i64) (.int .i64))))), (.int .i64), fun x => f46_State_2 x.1 x.2⟩)] []
/-- slices.siftDownCmpFuncpalaversched.timer -/
noncomputable def f106_siftDown (x0 : Sl) (x1 : Int) (x2 : Int) (x3 : Int) (x4 : Unit) : M Unit :=
  loopM (fun (s1 : Int) =>
  cnd (decide ((IntKind.wrap .i64 ((IntKind.wrap .i64 ((2 : Int) * s1)) + (1 : Int))) ≥ x2)) (
  ret (Sum.inr ())) (
  bnd (
  bnd (ordM 106 3 (regionIn 3 Tryz.f106)) fun (o3 : List Nat) =>
  cnd (decide ((IntKind.wrap .i64 ((IntKind.wrap .i64 ((IntKind.wrap .i64 ((2 : Int) * s1)) + (1 : Int))) + (1 : Int))) < x2)) (
  bnd (ix 3 x0 (IntKind.wrap .i64 (x3 + (IntKind.wrap .i64 ((IntKind.wrap .i64 ((2 : Int) * s1)) + (1 : Int)))))) fun (p4 : Addr) =>
  bnd (ld (.agg (.pair (.int .i64) (.pair (.int .i64) (.int .i64)))) p4) fun (v5 : (Int × (Int × Int))) =>
  bnd (ix 3 x0 (IntKind.wrap .i64 ((IntKind.wrap .i64 (x3 + (IntKind.wrap .i64 ((IntKind.wrap .i64 ((2 : Int) * s1)) + (1 : Int))))) + (1 : Int)))) fun (p6 : Addr) =>
  bnd (ld (.agg (.pair (.int .i64) (.pair (.int .i64) (.int .i64)))) p6) fun (v7 : (Int × (Int × Int))) =>
  bnd (f46_State_2 v5 v7) fun (r8 : Int) =>
  bnd (ret ()) fun _ =>
  ret (decide (r8 < (0 : Int)))) (
  bnd (ret ()) fun _ =>
  ret false)) fun (s2 : Bool) =>
  bnd (
  cnd s2 (
  ret (IntKind.wrap .i64 ((IntKind.wrap .i64 ((IntKind.wrap .i64 ((2 : Int) * s1)) + (1 : Int))) + (1 : Int)))) (
  ret (IntKind.wrap .i64 ((IntKind.wrap .i64 ((2 : Int) * s1)) + (1 : Int))))) fun (s9 : Int) =>
  bnd (
  bnd (ordM 106 5 (regionIn 5 Tryz.f106)) fun (o11 : List Nat) =>
  bnd (ix 3 x0 (IntKind.wrap .i64 (x3 + s1))) fun (p12 : Addr) =>
  bnd (ld (.agg (.pair (.int .i64) (.pair (.int .i64) (.int .i64)))) p12) fun (v13 : (Int × (Int × Int))) =>
  bnd (ix 3 x0 (IntKind.wrap .i64 (x3 + s9))) fun (p14 : Addr) =>
  bnd (ld (.agg (.pair (.int .i64) (.pair (.int .i64) (.int .i64)))) p14) fun (v15 : (Int × (Int × Int))) =>
  bnd (f46_State_2 v13 v15) fun (r16 : Int) =>
  bnd (ret ()) fun _ =>
  ret (!(decide (r16 < (0 : Int))))) fun (s10 : Bool) =>
  cnd s10 (
  ret (Sum.inr ())) (
  bnd (
  bnd (ordM 106 6 (regionIn 6 Tryz.f106)) fun (o18 : List Nat) =>
  bnd (ix 3 x0 (IntKind.wrap .i64 (x3 + s9))) fun (p19 : Addr) =>
  bnd (ld (.agg (.pair (.int .i64) (.pair (.int .i64) (.int .i64)))) p19) fun (v20 : (Int × (Int × Int))) =>
  bnd (ix 3 x0 (IntKind.wrap .i64 (x3 + s1))) fun (p21 : Addr) =>
  bnd (ld (.agg (.pair (.int .i64) (.pair (.int .i64) (.int .i64)))) p21) fun (v22 : (Int × (Int × Int))) =>
  bnd (ix 3 x0 (IntKind.wrap .i64 (x3 + s1))) fun (p23 : Addr) =>
  bnd (wrs p23 0 [.int .i64 v20.1, .int .i64 v20.2.1, .int .i64 v20.2.2]) fun _ =>
  bnd (ret ()) fun _ =>
  bnd (ix 3 x0 (IntKind.wrap .i64 (x3 + s9))) fun (p24 : Addr) =>
  bnd (wrs p24 0 [.int .i64 v22.1, .int .i64 v22.2.1, .int .i64 v22.2.2]) fun _ =>
  bnd (ret ()) fun _ =>
  ret ()) fun (s17 : Unit) =>
  ret (Sum.inl s9)))) x1
noncomputable def Af106_siftDown : Ann := (.two .nil (.one (.loop [(10, (.int .i64))] [11, 13, 14, 15, 16, 17, 18, 19, 20, 21, 22, 23, 24, 25, 26, 27, 28, 29, 30, 31, 32, 33, 34, 35, 36, 37, 38, 39, 40, 41, 42, 43, 44, 45, 46, 47, 48, 49, 50, 51, 52, 53, 54, 55, 56, 57, 58, 59, 60, 61, 62, 63, 64, 65, 66, 67, 68, 69, 70, 71, 72, 73, 74, 75, 76, 77, 78, 79, 80, 81] (.one (.two .nil (.two (.two .nil (.two .nil .nil)) (.two (.two (.join [(40, .bool)] [19, 20, 21, 22, 23, 24, 25, 26, 27, 28, 29, 30, 31, 32, 33, 34, 35, 36, 37, 38, 39] false (.ord 106 [(0, 4194302), (1, 4194300), (0, 4194299), (6, 4194289), (8, 4194279), (16, 4194255), (16, 4194223), (16, 4194159), (16, 4194031), (400, 4193391), (592, 4192687), (1040, 4191215), (16, 4190191), (16, 4186095), (16, 4177903), (24592, 4136943), (32784, 4095983), (69648, 3993583), (131088, 3801071), (264240, 3405775), (524304, 2621423), (1048592, 1048559)] (.o 0 (.o 1 (.o 2 (.o 3 (.o 4 (.s 23 (.o 5 (.o 6 (.o 7 (.o 8 (.o 9 (.o 10 (.o 11 (.o 12 (.o 13 (.o 14 (.o 15 (.o 16 (.o 17 (.o 18 (.o 19 (.o 20 (.o 21 .done))))))))))))))))) (.o 5 (.o 6 (.o 7 (.o 8 (.o 9 (.o 10 (.o 11 (.o 12 (.o 13 (.o 14 (.o 15 (.o 16 (.o 17 (.o 18 (.o 19 (.o 20 (.o 21 .done))))))))))))))))))))))))) (.join [(11, (.int .i64))] [41, 42] false (.two .nil .nil))) (.two (.two (.join [(58, .bool)] [43, 44, 45, 46, 47, 48, 49, 50, 51, 52, 53, 54, 55, 56, 57] false (.ord 106 [(0, 65534), (0, 65533), (0, 65531), (0, 65527), (12, 65507), (18, 65485), (32, 65439), (0, 65407), (0, 65279), (0, 65023), (768, 63743), (1152, 62335), (2048, 59391), (4161, 53182), (8192, 40959), (16384, 16383)] (.o 0 (.o 1 (.o 2 (.o 3 (.o 4 (.o 5 (.o 6 (.o 7 (.o 8 (.o 9 (.o 10 (.o 11 (.o 12 (.o 13 (.o 14 (.o 15 .done)))))))))))))))))) (.two .nil .nil)) (.two (.join [] [59, 60, 61, 62, 63, 64, 65, 66, 67, 68, 69, 70, 71, 72, 73, 74, 75, 76, 77, 78, 79, 80] false (.ord 106 [(0, 16777214), (0, 16777213), (0, 16777211), (6, 16777201), (0, 16777199), (0, 16777183), (0, 16777151), (96, 16776991), (0, 16776959), (0, 16776703), (0, 16776191), (1536, 16773631), (2304, 16770815), (4096, 16764927), (0, 16760831), (0, 16744447), (0, 16711679), (98304, 16547839), (147456, 16367615), (262144, 15990783), (540431, 15728630), (1589007, 13623295), (4194303, 12582767), (8388607, 3670015)] (.o 0 (.o 1 (.o 2 (.o 3 (.o 4 (.o 5 (.o 6 (.o 7 (.o 8 (.o 9 (.o 10 (.o 11 (.o 12 (.o 13 (.o 14 (.o 15 (.o 16 (.o 17 (.o 18 (.o 19 (.o 20 (.o 21 (.o 22 (.o 23 .done)))))))))))))))))))))))))) .nil)))))))))
theorem Cf106_siftDown_ok : Cf106_siftDown.Ok := mkC_ok mixed tysOk zerosOk eqsOk ⟨Sf46_State_2, trivial⟩ trivial
theorem Ef106_siftDown (x : (Sl × (Int × (Int × (Int × Unit))))) : evF Cf106_siftDown Tryz.f106 82 (.pair .sl (.pair (.int .i64) (.pair (.int .i64) (.pair (.int .i64) (.clo 46 .unit))))) (.tup .unit) Af106_siftDown x = f106_siftDown x.1 x.2.1 x.2.2.1 x.2.2.2.1 x.2.2.2.2 := by kernel_rfl
theorem Sf106_siftDown : SoundF Tryz.prog 106 ⟨(.pair .sl (.pair (.int .i64) (.pair (.int .i64) (.pair (.int .i64) (.clo 46 .unit))))), (.tup .unit), fun x => f106_siftDown x.1 x.2.1 x.2.2.1 x.2.2.2.1 x.2.2.2.2⟩ :=
  soundF_of Cf106_siftDown_ok Tryz.func106 (by kernel_rfl) (by kernel_rfl) Ef106_siftDown
noncomputable def Cf94_insertion : Ctx := mkC Tryz.prog tys zeros eqs [(46, ⟨(.pair (.agg (.pair (.int .i64) (.pair (.int .i64) (.int .i64)))) (.agg (.pair (.int .i64) (.pair (.int .i64) (.int .i64))))), (.int .i64), fun x => f46_State_2 x.1 x.2⟩)] []
/-- slices.insertionSortCmpFuncpalaversched.timer -/
noncomputable def f94_insertion (x0 : Sl) (x1 : Int) (x2 : Int) (x3 : Unit) : M Unit :=
  loopM (fun (s1 : Int) =>
  cnd (decide (s1 < x2)) (
  loopM (fun (s2 : Int) =>
  bnd (
  bnd (ordM 94 4 (regionIn 4 Tryz.f94)) fun (o4 : List Nat) =>
  cnd (decide (s2 > x1)) (
  bnd (ix 3 x0 s2) fun (p5 : Addr) =>
  bnd (ld (.agg (.pair (.int .i64) (.pair (.int .i64) (.int .i64)))) p5) fun (v6 : (Int × (Int × Int))) =>
  bnd (ix 3 x0 (IntKind.wrap .i64 (s2 - (1 : Int)))) fun (p7 : Addr) =>
  bnd (ld (.agg (.pair (.int .i64) (.pair (.int .i64) (.int .i64)))) p7) fun (v8 : (Int × (Int × Int))) =>
  bnd (f46_State_2 v6 v8) fun (r9 : Int) =>
  bnd (ret ()) fun _ =>
  ret (decide (r9 < (0 : Int)))) (
  bnd (ret ()) fun _ =>
  ret false)) fun (s3 : Bool) =>
  cnd s3 (
  bnd (
  bnd (ordM 94 6 (regionIn 6 Tryz.f94)) fun (o11 : List Nat) =>
  bnd (ix 3 x0 (IntKind.wrap .i64 (s2 - (1 : Int)))) fun (p12 : Addr) =>
  bnd (ld (.agg (.pair (.int .i64) (.pair (.int .i64) (.int .i64)))) p12) fun (v13 : (Int × (Int × Int))) =>
  bnd (ix 3 x0 s2) fun (p14 : Addr) =>
  bnd (ld (.agg (.pair (.int .i64) (.pair (.int .i64) (.int .i64)))) p14) fun (v15 : (Int × (Int × Int))) =>
  bnd (ix 3 x0 s2) fun (p16 : Addr) =>
  bnd (wrs p16 0 [.int .i64 v13.1, .int .i64 v13.2.1, .int .i64 v13.2.2]) fun _ =>
  bnd (ret ()) fun _ =>
  bnd (ix 3 x0 (IntKind.wrap .i64 (s2 - (1 : Int)))) fun (p17 : Addr) =>
  bnd (wrs p17 0 [.int .i64 v15.1, .int .i64 v15.2.1, .int .i64 v15.2.2]) fun _ =>
  bnd (ret ()) fun _ =>
  ret ()) fun (s10 : Unit) =>
  ret (Sum.inl (IntKind.wrap .i64 (s2 - (1 : Int))))) (
  ret (Sum.inr (Sum.inl (IntKind.wrap .i64 (s1 + (1 : Int))))))) s1) (
  ret (Sum.inr ()))) (IntKind.wrap .i64 (x1 + (1 : Int)))
noncomputable def Af94_insertion : Ann := (.two .nil (.one (.loop [(8, (.int .i64))] [9, 12, 13, 14, 15, 16, 17, 18, 19, 20, 21, 22, 23, 24, 25, 26, 27, 28, 29, 30, 31, 32, 33, 34, 35, 36, 37, 38, 39, 40, 41, 42, 43, 44, 45, 46, 47, 48, 49, 50, 51, 52] (.two (.two .nil (.two .nil .nil)) (.two (.one (.two .nil (.one (.loop [(9, (.int .i64))] [18, 19, 20, 21, 22, 23, 24, 25, 26, 27, 28, 29, 30, 31, 32, 33, 34, 35, 36, 37, 38, 39, 40, 41, 42, 43, 44, 45, 46, 47, 48, 49, 50, 51, 52] (.two (.two (.join [(34, .bool)] [18, 19, 20, 21, 22, 23, 24, 25, 26, 27, 28, 29, 30, 31, 32, 33] false (.ord 94 [(0, 131070), (0, 131069), (3, 131064), (4, 131059), (8, 131047), (8, 131031), (8, 130999), (104, 130839), (136, 130679), (8, 130551), (8, 130039), (1032, 127991), (2568, 124407), (4104, 118775), (8472, 106215), (16392, 81911), (32776, 32759)] (.o 0 (.o 1 (.o 2 (.o 3 (.s 21 (.o 4 (.o 5 (.o 6 (.o 7 (.o 8 (.o 9 (.o 10 (.o 11 (.o 12 (.o 13 (.o 14 (.o 15 (.o 16 .done))))))))))))) (.o 4 (.o 5 (.o 6 (.o 7 (.o 8 (.o 9 (.o 10 (.o 11 (.o 12 (.o 13 (.o 14 (.o 15 (.o 16 .done)))))))))))))))))))) (.two .nil .nil)) (.two (.one (.join [] [37, 38, 39, 40, 41, 42, 43, 44, 45, 46, 47, 48, 49, 50, 51, 52] false (.ord 94 [(0, 262142), (0, 262141), (0, 262139), (0, 262135), (8, 262119), (0, 262111), (0, 262079), (64, 261951), (160, 261727), (256, 261375), (0, 261119), (0, 260095), (3072, 254975), (4096, 249855), (9187, 245756), (25571, 212479), (65535, 196587), (131071, 57343)] (.o 0 (.o 1 (.o 2 (.o 3 (.o 4 (.o 5 (.o 6 (.o 7 (.o 8 (.o 9 (.o 10 (.o 11 (.o 12 (.o 13 (.o 14 (.o 15 (.o 16 (.o 17 .done))))))))))))))))))))) .nil)))))) .nil)))))
theorem Cf94_insertion_ok : Cf94_insertion.Ok := mkC_ok mixed tysOk zerosOk eqsOk ⟨Sf46_State_2, trivial⟩ trivial
theorem Ef94_insertion (x : (Sl × (Int × (Int × Unit)))) : evF Cf94_insertion Tryz.f94 53 (.pair .sl (.pair (.int .i64) (.pair (.int .i64) (.clo 46 .unit)))) (.tup .unit) Af94_insertion x = f94_insertion x.1 x.2.1 x.2.2.1 x.2.2.2 := by kernel_rfl
theorem Sf94_insertion : SoundF Tryz.prog 94 ⟨(.pair .sl (.pair (.int .i64) (.pair (.int .i64) (.clo 46 .unit)))), (.tup .unit), fun x => f94_insertion x.1 x.2.1 x.2.2.1 x.2.2.2⟩ :=
  soundF_of Cf94_insertion_ok Tryz.func94 (by kernel_rfl) (by kernel_rfl) Ef94_insertion
noncomputable def Cf95_heapSort : Ctx := mkC Tryz.prog tys zeros eqs [(106, ⟨(.pair .sl (.pair (.int .i64) (.pair (.int .i64) (.pair (.int .i64) (.clo 46 .unit))))), (.tup .unit), fun x => f106_siftDown x.1 x.2.1 x.2.2.1 x.2.2.2.1 x.2.2.2.2⟩)] []
/-- slices.heapSortCmpFuncpalaversched.timer -/
noncomputable def f95_heapSort (x0 : Sl) (x1 : Int) (x2 : Int) (x3 : Unit) : M Unit :=
  loopM (fun (s1 : Int) =>
  cnd (decide (s1 ≥ (0 : Int))) (
  bnd (f106_siftDown x0 s1 (IntKind.wrap .i64 (x2 - x1)) x1 x3) fun (r2 : Unit) =>
  ret (Sum.inl (IntKind.wrap .i64 (s1 - (1 : Int))))) (
  bnd (
  loopM (fun (s3 : Int) =>
  cnd (decide (s3 ≥ (0 : Int))) (
  bnd (
  bnd (ordM 95 10 (regionIn 10 Tryz.f95)) fun (o5 : List Nat) =>
  bnd (ix 3 x0 (IntKind.wrap .i64 (x1 + s3))) fun (p6 : Addr) =>
  bnd (ld (.agg (.pair (.int .i64) (.pair (.int .i64) (.int .i64)))) p6) fun (v7 : (Int × (Int × Int))) =>
  bnd (ix 3 x0 x1) fun (p8 : Addr) =>
  bnd (ld (.agg (.pair (.int .i64) (.pair (.int .i64) (.int .i64)))) p8) fun (v9 : (Int × (Int × Int))) =>
  bnd (ix 3 x0 x1) fun (p10 : Addr) =>
  bnd (wrs p10 0 [.int .i64 v7.1, .int .i64 v7.2.1, .int .i64 v7.2.2]) fun _ =>
  bnd (ret ()) fun _ =>
  bnd (ix 3 x0 (IntKind.wrap .i64 (x1 + s3))) fun (p11 : Addr) =>
  bnd (wrs p11 0 [.int .i64 v9.1, .int .i64 v9.2.1, .int .i64 v9.2.2]) fun _ =>
  bnd (ret ()) fun _ =>
  ret ()) fun (s4 : Unit) =>
  bnd (f106_siftDown x0 (0 : Int) s3 x1 x3) fun (r12 : Unit) =>
  ret (Sum.inl (IntKind.wrap .i64 (s3 - (1 : Int))))) (
  ret (Sum.inr ()))) (IntKind.wrap .i64 ((IntKind.wrap .i64 (x2 - x1)) - (1 : Int)))) fun r13 =>
  ret (Sum.inr r13))) (IntKind.wrap .i64 (Int.tdiv (IntKind.wrap .i64 ((IntKind.wrap .i64 (x2 - x1)) - (1 : Int))) (2 : Int)))
noncomputable def Af95_heapSort : Ann := (.two .nil (.two .nil (.two .nil (.two (.two .nil (.one (.loop [(11, (.int .i64))] [20, 21, 22, 23, 24, 25, 26, 27, 28, 29] (.two (.two .nil (.two .nil .nil)) (.two (.one .nil) .nil))))) (.two .nil (.one (.loop [(12, (.int .i64))] [32, 33, 34, 35, 36, 37, 38, 39, 40, 41, 42, 43, 44, 45, 46, 47, 48, 49, 50, 51, 52, 53, 54, 55, 56, 57, 58, 59] (.two (.two .nil (.two .nil .nil)) (.two (.one (.two (.join [] [36, 37, 38, 39, 40, 41, 42, 43, 44, 45, 46, 47, 48, 49, 50, 51, 52, 53] false (.ord 95 [(0, 1048574), (0, 1048573), (0, 1048571), (0, 1048567), (0, 1048559), (24, 1048519), (0, 1048511), (0, 1048447), (0, 1048319), (384, 1047679), (576, 1046975), (1024, 1045503), (0, 1044479), (0, 1040383), (12288, 1019903), (16384, 999423), (36803, 983036), (102339, 849919), (262143, 786395), (524287, 229375)] (.o 0 (.o 1 (.o 2 (.o 3 (.o 4 (.o 5 (.o 6 (.o 7 (.o 8 (.o 9 (.o 10 (.o 11 (.o 12 (.o 13 (.o 14 (.o 15 (.o 16 (.o 17 (.o 18 (.o 19 .done)))))))))))))))))))))) .nil)) .nil)))))))))
theorem Cf95_heapSort_ok : Cf95_heapSort.Ok := mkC_ok mixed tysOk zerosOk eqsOk ⟨Sf106_siftDown, trivial⟩ trivial
theorem Ef95_heapSort (x : (Sl × (Int × (Int × Unit)))) : evF Cf95_heapSort Tryz.f95 60 (.pair .sl (.pair (.int .i64) (.pair (.int .i64) (.clo 46 .unit)))) (.tup .unit) Af95_heapSort x = f95_heapSort x.1 x.2.1 x.2.2.1 x.2.2.2 := by kernel_rfl
theorem Sf95_heapSort : SoundF Tryz.prog 95 ⟨(.pair .sl (.pair (.int .i64) (.pair (.int .i64) (.clo 46 .unit)))), (.tup .unit), fun x => f95_heapSort x.1 x.2.1 x.2.2.1 x.2.2.2⟩ :=
  soundF_of Cf95_heapSort_ok Tryz.func95 (by kernel_rfl) (by kernel_rfl) Ef95_heapSort
noncomputable def Cf96_breakPatterns : Ctx := mkC Tryz.prog tys zeros eqs [(107, ⟨(.int .i64), (.int .u64), fun x => f107_slices_nextPowerOfTwo x⟩), (108, ⟨.ptr, (.int .u64), fun x => f108_slices_xorshift_Next x⟩)] []
/-- slices.breakPatternsCmpFuncpalaversched.timer -/
noncomputable def f96_breakPatterns (x0 : Sl) (x1 : Int) (x2 : Int) (x3 : Unit) : M Unit :=
  bnd (
  cnd (decide ((IntKind.wrap .i64 (x2 - x1)) ≥ (8 : Int))) (
  bnd (newC 153 [.int .u64 (0 : Int)]) fun (p2 : Addr) =>
  bnd (wrs p2 0 [.int .u64 (IntKind.wrap .u64 (IntKind.wrap .i64 (x2 - x1)))]) fun _ =>
  bnd (f107_slices_nextPowerOfTwo (IntKind.wrap .i64 (x2 - x1))) fun (r3 : Int) =>
  loopM (fun (s4 : Int) =>
  cnd (decide (s4 ≤ (IntKind.wrap .i64 ((IntKind.wrap .i64 (x1 + (IntKind.wrap .i64 ((IntKind.wrap .i64 (Int.tdiv (IntKind.wrap .i64 (x2 - x1)) (4 : Int))) * (2 : Int))))) + (1 : Int))))) (
  bnd (f108_slices_xorshift_Next (some p2)) fun (r5 : Int) =>
  bnd (
  cnd (decide ((IntKind.wrap .i64 (bAnd .u64 r5 (IntKind.wrap .u64 (r3 - (1 : Int))))) ≥ (IntKind.wrap .i64 (x2 - x1)))) (
  ret (IntKind.wrap .i64 ((IntKind.wrap .i64 (bAnd .u64 r5 (IntKind.wrap .u64 (r3 - (1 : Int))))) - (IntKind.wrap .i64 (x2 - x1))))) (
  ret (IntKind.wrap .i64 (bAnd .u64 r5 (IntKind.wrap .u64 (r3 - (1 : Int))))))) fun (s6 : Int) =>
  bnd (
  bnd (ordM 96 10 (regionIn 10 Tryz.f96)) fun (o8 : List Nat) =>
  bnd (ix 3 x0 (IntKind.wrap .i64 (x1 + s6))) fun (p9 : Addr) =>
  bnd (ld (.agg (.pair (.int .i64) (.pair (.int .i64) (.int .i64)))) p9) fun (v10 : (Int × (Int × Int))) =>
  bnd (ix 3 x0 s4) fun (p11 : Addr) =>
  bnd (ld (.agg (.pair (.int .i64) (.pair (.int .i64) (.int .i64)))) p11) fun (v12 : (Int × (Int × Int))) =>
  bnd (ix 3 x0 s4) fun (p13 : Addr) =>
  bnd (wrs p13 0 [.int .i64 v10.1, .int .i64 v10.2.1, .int .i64 v10.2.2]) fun _ =>
  bnd (ret ()) fun _ =>
  bnd (ix 3 x0 (IntKind.wrap .i64 (x1 + s6))) fun (p14 : Addr) =>
  bnd (wrs p14 0 [.int .i64 v12.1, .int .i64 v12.2.1, .int .i64 v12.2.2]) fun _ =>
  bnd (ret ()) fun _ =>
  ret ()) fun (s7 : Unit) =>
  ret (Sum.inl (IntKind.wrap .i64 (s4 + (1 : Int))))) (
  ret (Sum.inr ()))) (IntKind.wrap .i64 ((IntKind.wrap .i64 (x1 + (IntKind.wrap .i64 ((IntKind.wrap .i64 (Int.tdiv (IntKind.wrap .i64 (x2 - x1)) (4 : Int))) * (2 : Int))))) - (1 : Int)))) (
  ret ())) fun (s1 : Unit) =>
  ret ()
noncomputable def Af96_breakPatterns : Ann := (.two .nil (.two .nil (.join [] [9, 10, 11, 12, 18, 19, 20, 21, 22, 23, 24, 25, 26, 27, 28, 29, 30, 31, 32, 33, 34, 35, 36, 37, 38, 39, 40, 41, 42, 43, 44, 45, 46, 47, 48, 49, 50, 51, 52, 53, 54, 55, 56, 57, 58, 59, 60, 61, 62, 63, 64, 65, 66] false (.two (.two .nil (.two .nil (.two .nil (.one (.loop [(11, (.int .i64))] [12, 28, 29, 30, 31, 32, 33, 34, 35, 36, 37, 38, 39, 40, 41, 42, 43, 44, 45, 46, 47, 48, 49, 50, 51, 52, 53, 54, 55, 56, 57, 58, 59, 60, 61, 62, 63, 64, 65, 66] (.two (.two .nil (.two .nil .nil)) (.two (.one (.two .nil (.two (.two .nil (.join [(12, (.int .i64))] [46, 47, 48] false (.two .nil .nil))) (.join [] [49, 50, 51, 52, 53, 54, 55, 56, 57, 58, 59, 60, 61, 62, 63, 64, 65, 66] false (.ord 96 [(0, 1048574), (0, 1048573), (0, 1048571), (0, 1048567), (0, 1048559), (24, 1048519), (0, 1048511), (0, 1048447), (0, 1048319), (384, 1047679), (576, 1046975), (1024, 1045503), (0, 1044479), (0, 1040383), (12288, 1019903), (16384, 999423), (36803, 983036), (102339, 849919), (262143, 786395), (524287, 229375)] (.o 0 (.o 1 (.o 2 (.o 3 (.o 4 (.o 5 (.o 6 (.o 7 (.o 8 (.o 9 (.o 10 (.o 11 (.o 12 (.o 13 (.o 14 (.o 15 (.o 16 (.o 17 (.o 18 (.o 19 .done))))))))))))))))))))))))) .nil))))))) .nil))))
theorem Cf96_breakPatterns_ok : Cf96_breakPatterns.Ok := mkC_ok mixed tysOk zerosOk eqsOk ⟨Sf107_slices_nextPowerOfTwo, Sf108_slices_xorshift_Next, trivial⟩ trivial
theorem Ef96_breakPatterns (x : (Sl × (Int × (Int × Unit)))) : evF Cf96_breakPatterns Tryz.f96 67 (.pair .sl (.pair (.int .i64) (.pair (.int .i64) (.clo 46 .unit)))) (.tup .unit) Af96_breakPatterns x = f96_breakPatterns x.1 x.2.1 x.2.2.1 x.2.2.2 := by kernel_rfl
theorem Sf96_breakPatterns : SoundF Tryz.prog 96 ⟨(.pair .sl (.pair (.int .i64) (.pair (.int .i64) (.clo 46 .unit)))), (.tup .unit), fun x => f96_breakPatterns x.1 x.2.1 x.2.2.1 x.2.2.2⟩ :=
  soundF_of Cf96_breakPatterns_ok Tryz.func96 (by kernel_rfl) (by kernel_rfl) Ef96_breakPatterns
noncomputable def Cf97_choosePivot : Ctx := mkC Tryz.prog tys zeros eqs [(109, ⟨(.pair .sl (.pair (.int .i64) (.pair .ptr (.clo 46 .unit)))), (.int .i64), fun x => f109_medianAdj x.1 x.2.1 x.2.2.1 x.2.2.2⟩), (110, ⟨(.pair .sl (.pair (.int .i64) (.pair (.int .i64) (.pair (.int .i64) (.pair .ptr (.clo 46 .unit)))))), (.int .i64), fun x => f110_median x.1 x.2.1 x.2.2.1 x.2.2.2.1 x.2.2.2.2.1 x.2.2.2.2.2⟩)] []
/-- slices.choosePivotCmpFuncpalaversched.timer -/
noncomputable def f97_choosePivot (x0 : Sl) (x1 : Int) (x2 : Int) (x3 : Unit) : M (Int × Int) :=
  bnd (newC 3 [.int .i64 (0 : Int)]) fun (p1 : Addr) =>
  bnd (
  cnd (decide ((IntKind.wrap .i64 (x2 - x1)) ≥ (8 : Int))) (
  bnd (
  cnd (decide ((IntKind.wrap .i64 (x2 - x1)) ≥ (50 : Int))) (
  bnd (f109_medianAdj x0 (IntKind.wrap .i64 (x1 + (IntKind.wrap .i64 ((IntKind.wrap .i64 (Int.tdiv (IntKind.wrap .i64 (x2 - x1)) (4 : Int))) * (1 : Int))))) (some p1) x3) fun (r4 : Int) =>
  bnd (f109_medianAdj x0 (IntKind.wrap .i64 (x1 + (IntKind.wrap .i64 ((IntKind.wrap .i64 (Int.tdiv (IntKind.wrap .i64 (x2 - x1)) (4 : Int))) * (2 : Int))))) (some p1) x3) fun (r5 : Int) =>
  bnd (f109_medianAdj x0 (IntKind.wrap .i64 (x1 + (IntKind.wrap .i64 ((IntKind.wrap .i64 (Int.tdiv (IntKind.wrap .i64 (x2 - x1)) (4 : Int))) * (3 : Int))))) (some p1) x3) fun (r6 : Int) =>
  ret (r4, r5, r6)) (
  ret ((IntKind.wrap .i64 (x1 + (IntKind.wrap .i64 ((IntKind.wrap .i64 (Int.tdiv (IntKind.wrap .i64 (x2 - x1)) (4 : Int))) * (1 : Int))))), (IntKind.wrap .i64 (x1 + (IntKind.wrap .i64 ((IntKind.wrap .i64 (Int.tdiv (IntKind.wrap .i64 (x2 - x1)) (4 : Int))) * (2 : Int))))), (IntKind.wrap .i64 (x1 + (IntKind.wrap .i64 ((IntKind.wrap .i64 (Int.tdiv (IntKind.wrap .i64 (x2 - x1)) (4 : Int))) * (3 : Int)))))))) fun (s3 : (Int × (Int × Int))) =>
  bnd (f110_median x0 s3.1 s3.2.1 s3.2.2 (some p1) x3) fun (r7 : Int) =>
  ret r7) (
  ret (IntKind.wrap .i64 (x1 + (IntKind.wrap .i64 ((IntKind.wrap .i64 (Int.tdiv (IntKind.wrap .i64 (x2 - x1)) (4 : Int))) * (2 : Int))))))) fun (s2 : Int) =>
  bnd (ld (.int .i64) p1) fun (v8 : Int) =>
  cnd (v8 == (0 : Int)) (
  ret (s2, (1 : Int))) (
  cnd (v8 == (12 : Int)) (
  ret (s2, (2 : Int))) (
  ret (s2, (0 : Int))))
noncomputable def Af97_choosePivot : Ann := (.two .nil (.two .nil (.two .nil (.two .nil (.two .nil (.two .nil (.two (.two .nil (.join [(13, (.int .i64))] [12, 14, 35, 36, 37, 38, 39, 40, 41, 42, 43, 44, 45, 46, 47, 48, 49, 50, 51, 52, 53, 54] false (.two (.two (.two .nil (.join [(12, (.int .i64)), (13, (.int .i64)), (14, (.int .i64))] [37, 38, 39, 40, 41, 42, 43, 44, 45, 46, 47, 48] false (.two (.two .nil (.two .nil .nil)) .nil))) .nil) .nil))) (.two .nil (.one (.two .nil (.two (.two .nil .nil) (.two .nil (.two (.two .nil .nil) (.two .nil .nil))))))))))))))
theorem Cf97_choosePivot_ok : Cf97_choosePivot.Ok := mkC_ok mixed tysOk zerosOk eqsOk ⟨Sf109_medianAdj, Sf110_median, trivial⟩ trivial
theorem Ef97_choosePivot (x : (Sl × (Int × (Int × Unit)))) : evF Cf97_choosePivot Tryz.f97 63 (.pair .sl (.pair (.int .i64) (.pair (.int .i64) (.clo 46 .unit)))) (.tup (.pair (.int .i64) (.int .i64))) Af97_choosePivot x = f97_choosePivot x.1 x.2.1 x.2.2.1 x.2.2.2 := by kernel_rfl
theorem Sf97_choosePivot : SoundF Tryz.prog 97 ⟨(.pair .sl (.pair (.int .i64) (.pair (.int .i64) (.clo 46 .unit)))), (.tup (.pair (.int .i64) (.int .i64))), fun x => f97_choosePivot x.1 x.2.1 x.2.2.1 x.2.2.2⟩ :=
  soundF_of Cf97_choosePivot_ok Tryz.func97 (by kernel_rfl) (by kernel_rfl) Ef97_choosePivot
noncomputable def Cf98_reverseRange : Ctx := mkC Tryz.prog tys zeros eqs [] []
/-- slices.reverseRangeCmpFuncpalaversched.timer -/
noncomputable def f98_reverseRange (x0 : Sl) (x1 : Int) (x2 : Int) (x3 : Unit) : M Unit :=
  loopM (fun (s1 : (Int × Int)) =>
  cnd (decide (s1.1 < s1.2)) (
  bnd (
  bnd (ordM 98 3 (regionIn 3 Tryz.f98)) fun (o3 : List Nat) =>
  bnd (ix 3 x0 s1.2) fun (p4 : Addr) =>
  bnd (ld (.agg (.pair (.int .i64) (.pair (.int .i64) (.int .i64)))) p4) fun (v5 : (Int × (Int × Int))) =>
  bnd (ix 3 x0 s1.1) fun (p6 : Addr) =>
  bnd (ld (.agg (.pair (.int .i64) (.pair (.int .i64) (.int .i64)))) p6) fun (v7 : (Int × (Int × Int))) =>
  bnd (ix 3 x0 s1.1) fun (p8 : Addr) =>
  bnd (wrs p8 0 [.int .i64 v5.1, .int .i64 v5.2.1, .int .i64 v5.2.2]) fun _ =>
  bnd (ret ()) fun _ =>
  bnd (ix 3 x0 s1.2) fun (p9 : Addr) =>
  bnd (wrs p9 0 [.int .i64 v7.1, .int .i64 v7.2.1, .int .i64 v7.2.2]) fun _ =>
  bnd (ret ()) fun _ =>
  ret ()) fun (s2 : Unit) =>
  ret (Sum.inl ((IntKind.wrap .i64 (s1.1 + (1 : Int))), (IntKind.wrap .i64 (s1.2 - (1 : Int)))))) (
  ret (Sum.inr ()))) (x1, (IntKind.wrap .i64 (x2 - (1 : Int))))
noncomputable def Af98_reverseRange : Ann := (.two .nil (.two .nil (.one (.loop [(8, (.int .i64)), (9, (.int .i64))] [13, 14, 15, 16, 17, 18, 19, 20, 21, 22, 23, 24, 25, 26, 27, 28, 29, 30, 31, 32, 33] (.two (.two .nil (.two .nil .nil)) (.one (.two (.join [] [16, 17, 18, 19, 20, 21, 22, 23, 24, 25, 26, 27, 28, 29] false (.ord 98 [(0, 65534), (0, 65533), (0, 65531), (0, 65527), (0, 65519), (0, 65503), (48, 65423), (64, 65343), (0, 65279), (0, 65023), (768, 63743), (1024, 62463), (2291, 61436), (6387, 53119), (16383, 49139), (32767, 14335)] (.o 0 (.o 1 (.o 2 (.o 3 (.o 4 (.o 5 (.o 6 (.o 7 (.o 8 (.o 9 (.o 10 (.o 11 (.o 12 (.o 13 (.o 14 (.o 15 .done)))))))))))))))))) (.two .nil .nil))))))))
theorem Cf98_reverseRange_ok : Cf98_reverseRange.Ok := mkC_ok mixed tysOk zerosOk eqsOk trivial trivial
theorem Ef98_reverseRange (x : (Sl × (Int × (Int × Unit)))) : evF Cf98_reverseRange Tryz.f98 34 (.pair .sl (.pair (.int .i64) (.pair (.int .i64) (.clo 46 .unit)))) (.tup .unit) Af98_reverseRange x = f98_reverseRange x.1 x.2.1 x.2.2.1 x.2.2.2 := by kernel_rfl
theorem Sf98_reverseRange : SoundF Tryz.prog 98 ⟨(.pair .sl (.pair (.int .i64) (.pair (.int .i64) (.clo 46 .unit)))), (.tup .unit), fun x => f98_reverseRange x.1 x.2.1 x.2.2.1 x.2.2.2⟩ :=
  soundF_of Cf98_reverseRange_ok Tryz.func98 (by kernel_rfl) (by kernel_rfl) Ef98_reverseRange
noncomputable def Cf99_partialInsertion : Ctx := mkC Tryz.prog tys zeros eqs [(46, ⟨(.pair (.agg (.pair (.int .i64) (.pair (.int .i64) (.int .i64)))) (.agg (.pair (.int .i64) (.pair (.int .i64) (.int .i64))))), (.int .i64), fun x => f46_State_2 x.1 x.2⟩)] []
/-- slices.partialInsertionSortCmpFuncpalaversched.timer -/
noncomputable def f99_partialInsertion (x0 : Sl) (x1 : Int) (x2 : Int) (x3 : Unit) : M Bool :=
  loopM (fun (s1 : (Int × Int)) =>
  cnd (decide (s1.2 < (5 : Int))) (
  loopM (fun (s2 : Int) =>
  bnd (
  bnd (ordM 99 5 (regionIn 5 Tryz.f99)) fun (o4 : List Nat) =>
  cnd (decide (s2 < x2)) (
  bnd (ix 3 x0 s2) fun (p5 : Addr) =>
  bnd (ld (.agg (.pair (.int .i64) (.pair (.int .i64) (.int .i64)))) p5) fun (v6 : (Int × (Int × Int))) =>
  bnd (ix 3 x0 (IntKind.wrap .i64 (s2 - (1 : Int)))) fun (p7 : Addr) =>
  bnd (ld (.agg (.pair (.int .i64) (.pair (.int .i64) (.int .i64)))) p7) fun (v8 : (Int × (Int × Int))) =>
  bnd (f46_State_2 v6 v8) fun (r9 : Int) =>
  bnd (ret ()) fun _ =>
  ret (!(decide (r9 < (0 : Int))))) (
  bnd (ret ()) fun _ =>
  ret false)) fun (s3 : Bool) =>
  cnd s3 (
  ret (Sum.inl (IntKind.wrap .i64 (s2 + (1 : Int))))) (
  bnd (
  cnd (s2 == x2) (
  ret (Sum.inr true)) (
  cnd (decide ((IntKind.wrap .i64 (x2 - x1)) < (50 : Int))) (
  ret (Sum.inr false)) (
  bnd (
  bnd (ordM 99 11 (regionIn 11 Tryz.f99)) fun (o11 : List Nat) =>
  bnd (ix 3 x0 (IntKind.wrap .i64 (s2 - (1 : Int)))) fun (p12 : Addr) =>
  bnd (ld (.agg (.pair (.int .i64) (.pair (.int .i64) (.int .i64)))) p12) fun (v13 : (Int × (Int × Int))) =>
  bnd (ix 3 x0 s2) fun (p14 : Addr) =>
  bnd (ld (.agg (.pair (.int .i64) (.pair (.int .i64) (.int .i64)))) p14) fun (v15 : (Int × (Int × Int))) =>
  bnd (ix 3 x0 s2) fun (p16 : Addr) =>
  bnd (wrs p16 0 [.int .i64 v13.1, .int .i64 v13.2.1, .int .i64 v13.2.2]) fun _ =>
  bnd (ret ()) fun _ =>
  bnd (ix 3 x0 (IntKind.wrap .i64 (s2 - (1 : Int)))) fun (p17 : Addr) =>
  bnd (wrs p17 0 [.int .i64 v15.1, .int .i64 v15.2.1, .int .i64 v15.2.2]) fun _ =>
  bnd (ret ()) fun _ =>
  ret ()) fun (s10 : Unit) =>
  bnd (
  cnd (decide ((IntKind.wrap .i64 (s2 - x1)) ≥ (2 : Int))) (
  bnd (
  loopM (fun (s20 : Int) =>
  cnd (decide (s20 ≥ (1 : Int))) (
  bnd (
  bnd (ordM 99 16 (regionIn 16 Tryz.f99)) fun (o22 : List Nat) =>
  bnd (ix 3 x0 s20) fun (p23 : Addr) =>
  bnd (ld (.agg (.pair (.int .i64) (.pair (.int .i64) (.int .i64)))) p23) fun (v24 : (Int × (Int × Int))) =>
  bnd (ix 3 x0 (IntKind.wrap .i64 (s20 - (1 : Int)))) fun (p25 : Addr) =>
  bnd (ld (.agg (.pair (.int .i64) (.pair (.int .i64) (.int .i64)))) p25) fun (v26 : (Int × (Int × Int))) =>
  bnd (f46_State_2 v24 v26) fun (r27 : Int) =>
  bnd (ret ()) fun _ =>
  ret (!(decide (r27 < (0 : Int))))) fun (s21 : Bool) =>
  cnd s21 (
  ret (Sum.inr ())) (
  bnd (
  bnd (ordM 99 17 (regionIn 17 Tryz.f99)) fun (o29 : List Nat) =>
  bnd (ix 3 x0 (IntKind.wrap .i64 (s20 - (1 : Int)))) fun (p30 : Addr) =>
  bnd (ld (.agg (.pair (.int .i64) (.pair (.int .i64) (.int .i64)))) p30) fun (v31 : (Int × (Int × Int))) =>
  bnd (ix 3 x0 s20) fun (p32 : Addr) =>
  bnd (ld (.agg (.pair (.int .i64) (.pair (.int .i64) (.int .i64)))) p32) fun (v33 : (Int × (Int × Int))) =>
  bnd (ix 3 x0 s20) fun (p34 : Addr) =>
  bnd (wrs p34 0 [.int .i64 v31.1, .int .i64 v31.2.1, .int .i64 v31.2.2]) fun _ =>
  bnd (ret ()) fun _ =>
  bnd (ix 3 x0 (IntKind.wrap .i64 (s20 - (1 : Int)))) fun (p35 : Addr) =>
  bnd (wrs p35 0 [.int .i64 v33.1, .int .i64 v33.2.1, .int .i64 v33.2.2]) fun _ =>
  bnd (ret ()) fun _ =>
  ret ()) fun (s28 : Unit) =>
  ret (Sum.inl (IntKind.wrap .i64 (s20 - (1 : Int)))))) (
  ret (Sum.inr ()))) (IntKind.wrap .i64 (s2 - (1 : Int)))) fun (s19 : Unit) =>
  ret ()) (
  ret ())) fun (s18 : Unit) =>
  bnd (
  cnd (decide ((IntKind.wrap .i64 (x2 - s2)) ≥ (2 : Int))) (
  bnd (
  loopM (fun (s38 : Int) =>
  cnd (decide (s38 < x2)) (
  bnd (
  bnd (ordM 99 22 (regionIn 22 Tryz.f99)) fun (o40 : List Nat) =>
  bnd (ix 3 x0 s38) fun (p41 : Addr) =>
  bnd (ld (.agg (.pair (.int .i64) (.pair (.int .i64) (.int .i64)))) p41) fun (v42 : (Int × (Int × Int))) =>
  bnd (ix 3 x0 (IntKind.wrap .i64 (s38 - (1 : Int)))) fun (p43 : Addr) =>
  bnd (ld (.agg (.pair (.int .i64) (.pair (.int .i64) (.int .i64)))) p43) fun (v44 : (Int × (Int × Int))) =>
  bnd (f46_State_2 v42 v44) fun (r45 : Int) =>
  bnd (ret ()) fun _ =>
  ret (!(decide (r45 < (0 : Int))))) fun (s39 : Bool) =>
  cnd s39 (
  ret (Sum.inr ())) (
  bnd (
  bnd (ordM 99 23 (regionIn 23 Tryz.f99)) fun (o47 : List Nat) =>
  bnd (ix 3 x0 (IntKind.wrap .i64 (s38 - (1 : Int)))) fun (p48 : Addr) =>
  bnd (ld (.agg (.pair (.int .i64) (.pair (.int .i64) (.int .i64)))) p48) fun (v49 : (Int × (Int × Int))) =>
  bnd (ix 3 x0 s38) fun (p50 : Addr) =>
  bnd (ld (.agg (.pair (.int .i64) (.pair (.int .i64) (.int .i64)))) p50) fun (v51 : (Int × (Int × Int))) =>
  bnd (ix 3 x0 s38) fun (p52 : Addr) =>
  bnd (wrs p52 0 [.int .i64 v49.1, .int .i64 v49.2.1, .int .i64 v49.2.2]) fun _ =>
  bnd (ret ()) fun _ =>
  bnd (ix 3 x0 (IntKind.wrap .i64 (s38 - (1 : Int)))) fun (p53 : Addr) =>
  bnd (wrs p53 0 [.int .i64 v51.1, .int .i64 v51.2.1, .int .i64 v51.2.2]) fun _ =>
  bnd (ret ()) fun _ =>
  ret ()) fun (s46 : Unit) =>
  ret (Sum.inl (IntKind.wrap .i64 (s38 + (1 : Int)))))) (
  ret (Sum.inr ()))) (IntKind.wrap .i64 (s2 + (1 : Int)))) fun (s37 : Unit) =>
  ret ()) (
  ret ())) fun (s36 : Unit) =>
  ret (Sum.inl (s2, (IntKind.wrap .i64 (s1.2 + (1 : Int)))))))) fun r54 =>
  ret (Sum.inr r54))) s1.1) (
  ret (Sum.inr false))) ((IntKind.wrap .i64 (x1 + (1 : Int))), (0 : Int))
noncomputable def Af99_partialInsertion : Ann := (.two .nil (.two .nil (.two (.two .nil (.one (.loop [(9, (.int .i64)), (10, (.int .i64))] [8, 11, 12, 15, 16, 17, 18, 19, 20, 21, 22, 23, 24, 25, 26, 27, 28, 29, 30, 31, 32, 33, 34, 35, 36, 37, 38, 39, 40, 41, 42, 43, 44, 45, 46, 47, 48, 49, 50, 51, 52, 53, 54, 55, 56, 57, 58, 59, 60, 61, 62, 63, 64, 65, 66, 67, 68, 69, 70, 71, 72, 73, 74, 75, 76, 77, 78, 79, 80, 81, 82, 83, 84, 85, 86, 87, 88, 89, 90, 91, 92, 93, 94, 95, 96, 97, 98, 99, 100, 101, 102, 103, 104, 105, 106, 107, 108, 109, 110, 111, 112, 113, 114, 115, 116, 117, 118, 119, 120, 121, 122, 123, 124, 125, 126, 127, 128, 129, 130, 131, 132, 133, 134, 135, 136, 137, 138, 139, 140] (.two (.two .nil (.two .nil .nil)) (.two (.one (.two (.one (.loop [(9, (.int .i64))] [19, 20, 21, 22, 23, 24, 25, 26, 27, 28, 29, 30, 31, 32, 33, 34, 35, 36, 37, 38] (.two (.two (.join [(36, .bool)] [19, 20, 21, 22, 23, 24, 25, 26, 27, 28, 29, 30, 31, 32, 33, 34, 35] false (.ord 99 [(0, 262142), (0, 262141), (3, 262136), (4, 262131), (8, 262119), (8, 262103), (8, 262071), (104, 261911), (136, 261751), (8, 261623), (8, 261111), (1032, 259063), (2568, 255479), (4104, 249847), (8472, 237287), (16392, 212983), (32776, 163831), (65544, 65527)] (.o 0 (.o 1 (.o 2 (.o 3 (.s 22 (.o 4 (.o 5 (.o 6 (.o 7 (.o 8 (.o 9 (.o 10 (.o 11 (.o 12 (.o 13 (.o 14 (.o 15 (.o 16 (.o 17 .done)))))))))))))) (.o 4 (.o 5 (.o 6 (.o 7 (.o 8 (.o 9 (.o 10 (.o 11 (.o 12 (.o 13 (.o 14 (.o 15 (.o 16 (.o 17 .done))))))))))))))))))))) (.two .nil .nil)) (.one .nil)))) (.two (.two .nil (.two (.two .nil .nil) .nil)) (.two (.two .nil (.two (.two .nil .nil) .nil)) (.two (.join [] [46, 47, 48, 49, 50, 51, 52, 53, 54, 55, 56, 57, 58, 59, 60, 61] false (.ord 99 [(0, 262142), (0, 262141), (0, 262139), (0, 262135), (8, 262119), (0, 262111), (0, 262079), (64, 261951), (160, 261727), (256, 261375), (0, 261119), (0, 260095), (3072, 254975), (4096, 249855), (9187, 245756), (25571, 212479), (65535, 196587), (131071, 57343)] (.o 0 (.o 1 (.o 2 (.o 3 (.o 4 (.o 5 (.o 6 (.o 7 (.o 8 (.o 9 (.o 10 (.o 11 (.o 12 (.o 13 (.o 14 (.o 15 (.o 16 (.o 17 .done)))))))))))))))))))) (.two (.two .nil (.join [] [11, 66, 67, 68, 69, 70, 71, 72, 73, 74, 75, 76, 77, 78, 79, 80, 81, 82, 83, 84, 85, 86, 87, 88, 89, 90, 91, 92, 93, 94, 95, 96, 97, 98, 99, 100] false (.two (.two .nil (.join [] [11, 68, 69, 70, 71, 72, 73, 74, 75, 76, 77, 78, 79, 80, 81, 82, 83, 84, 85, 86, 87, 88, 89, 90, 91, 92, 93, 94, 95, 96, 97, 98, 99, 100] false (.one (.loop [(11, (.int .i64))] [68, 69, 70, 71, 72, 73, 74, 75, 76, 77, 78, 79, 80, 81, 82, 83, 84, 85, 86, 87, 88, 89, 90, 91, 92, 93, 94, 95, 96, 97, 98, 99, 100] (.two (.two .nil (.two .nil .nil)) (.two (.one (.two (.two (.join [(84, .bool)] [72, 73, 74, 75, 76, 77, 78, 79, 80, 81, 82, 83] false (.ord 99 [(0, 8190), (0, 8189), (0, 8187), (6, 8177), (8, 8167), (0, 8159), (0, 8127), (64, 7999), (160, 7775), (256, 7423), (529, 6638), (1024, 5119), (2048, 2047)] (.o 0 (.o 1 (.o 2 (.o 3 (.o 4 (.o 5 (.o 6 (.o 7 (.o 8 (.o 9 (.o 10 (.o 11 (.o 12 .done))))))))))))))) (.two .nil .nil)) (.join [] [85, 86, 87, 88, 89, 90, 91, 92, 93, 94, 95, 96, 97, 98, 99, 100] false (.ord 99 [(0, 262142), (0, 262141), (0, 262139), (0, 262135), (8, 262119), (0, 262111), (0, 262079), (64, 261951), (160, 261727), (256, 261375), (0, 261119), (0, 260095), (3072, 254975), (4096, 249855), (9187, 245756), (25571, 212479), (65535, 196587), (131071, 57343)] (.o 0 (.o 1 (.o 2 (.o 3 (.o 4 (.o 5 (.o 6 (.o 7 (.o 8 (.o 9 (.o 10 (.o 11 (.o 12 (.o 13 (.o 14 (.o 15 (.o 16 (.o 17 .done)))))))))))))))))))))) .nil)))))) .nil))) (.two .nil (.join [] [12, 105, 106, 107, 108, 109, 110, 111, 112, 113, 114, 115, 116, 117, 118, 119, 120, 121, 122, 123, 124, 125, 126, 127, 128, 129, 130, 131, 132, 133, 134, 135, 136, 137, 138, 139, 140] false (.two (.two .nil (.join [] [12, 107, 108, 109, 110, 111, 112, 113, 114, 115, 116, 117, 118, 119, 120, 121, 122, 123, 124, 125, 126, 127, 128, 129, 130, 131, 132, 133, 134, 135, 136, 137, 138, 139, 140] false (.one (.loop [(12, (.int .i64))] [107, 108, 109, 110, 111, 112, 113, 114, 115, 116, 117, 118, 119, 120, 121, 122, 123, 124, 125, 126, 127, 128, 129, 130, 131, 132, 133, 134, 135, 136, 137, 138, 139, 140] (.two (.two .nil (.two .nil .nil)) (.two (.one (.two (.two (.join [(124, .bool)] [112, 113, 114, 115, 116, 117, 118, 119, 120, 121, 122, 123] false (.ord 99 [(0, 8190), (0, 8189), (0, 8187), (6, 8177), (8, 8167), (0, 8159), (0, 8127), (64, 7999), (160, 7775), (256, 7423), (529, 6638), (1024, 5119), (2048, 2047)] (.o 0 (.o 1 (.o 2 (.o 3 (.o 4 (.o 5 (.o 6 (.o 7 (.o 8 (.o 9 (.o 10 (.o 11 (.o 12 .done))))))))))))))) (.two .nil .nil)) (.join [] [125, 126, 127, 128, 129, 130, 131, 132, 133, 134, 135, 136, 137, 138, 139, 140] false (.ord 99 [(0, 262142), (0, 262141), (0, 262139), (0, 262135), (8, 262119), (0, 262111), (0, 262079), (64, 261951), (160, 261727), (256, 261375), (0, 261119), (0, 260095), (3072, 254975), (4096, 249855), (9187, 245756), (25571, 212479), (65535, 196587), (131071, 57343)] (.o 0 (.o 1 (.o 2 (.o 3 (.o 4 (.o 5 (.o 6 (.o 7 (.o 8 (.o 9 (.o 10 (.o 11 (.o 12 (.o 13 (.o 14 (.o 15 (.o 16 (.o 17 .done)))))))))))))))))))))) .nil)))))) .nil))))))))) .nil))))) (.two .nil .nil))))
theorem Cf99_partialInsertion_ok : Cf99_partialInsertion.Ok := mkC_ok mixed tysOk zerosOk eqsOk ⟨Sf46_State_2, trivial⟩ trivial
theorem Ef99_partialInsertion (x : (Sl × (Int × (Int × Unit)))) : evF Cf99_partialInsertion Tryz.f99 141 (.pair .sl (.pair (.int .i64) (.pair (.int .i64) (.clo 46 .unit)))) .bool Af99_partialInsertion x = f99_partialInsertion x.1 x.2.1 x.2.2.1 x.2.2.2 := by kernel_rfl
theorem Sf99_partialInsertion : SoundF Tryz.prog 99 ⟨(.pair .sl (.pair (.int .i64) (.pair (.int .i64) (.clo 46 .unit)))), .bool, fun x => f99_partialInsertion x.1 x.2.1 x.2.2.1 x.2.2.2⟩ :=
  soundF_of Cf99_partialInsertion_ok Tryz.func99 (by kernel_rfl) (by kernel_rfl) Ef99_partialInsertion
noncomputable def Cf100_partitionEqual : Ctx := mkC Tryz.prog tys zeros eqs [(46, ⟨(.pair (.agg (.pair (.int .i64) (.pair (.int .i64) (.int .i64)))) (.agg (.pair (.int .i64) (.pair (.int .i64) (.int .i64))))), (.int .i64), fun x => f46_State_2 x.1 x.2⟩)] []
/-- slices.partitionEqualCmpFuncpalaversched.timer -/
noncomputable def f100_partitionEqual (x0 : Sl) (x1 : Int) (x2 : Int) (x3 : Int) (x4 : Unit) : M Int :=
  bnd (
  bnd (ordM 100 1 (regionIn 1 Tryz.f100)) fun (o2 : List Nat) =>
  bnd (ix 3 x0 x3) fun (p3 : Addr) =>
  bnd (ld (.agg (.pair (.int .i64) (.pair (.int .i64) (.int .i64)))) p3) fun (v4 : (Int × (Int × Int))) =>
  bnd (ix 3 x0 x1) fun (p5 : Addr) =>
  bnd (ld (.agg (.pair (.int .i64) (.pair (.int .i64) (.int .i64)))) p5) fun (v6 : (Int × (Int × Int))) =>
  bnd (ix 3 x0 x1) fun (p7 : Addr) =>
  bnd (wrs p7 0 [.int .i64 v4.1, .int .i64 v4.2.1, .int .i64 v4.2.2]) fun _ =>
  bnd (ret ()) fun _ =>
  bnd (ix 3 x0 x3) fun (p8 : Addr) =>
  bnd (wrs p8 0 [.int .i64 v6.1, .int .i64 v6.2.1, .int .i64 v6.2.2]) fun _ =>
  bnd (ret ()) fun _ =>
  ret ()) fun (s1 : Unit) =>
  loopM (fun (s9 : (Int × Int)) =>
  loopM (fun (s10 : Int) =>
  bnd (
  bnd (ordM 100 3 (regionIn 3 Tryz.f100)) fun (o12 : List Nat) =>
  cnd (decide (s10 ≤ s9.2)) (
  bnd (ix 3 x0 x1) fun (p13 : Addr) =>
  bnd (ld (.agg (.pair (.int .i64) (.pair (.int .i64) (.int .i64)))) p13) fun (v14 : (Int × (Int × Int))) =>
  bnd (ix 3 x0 s10) fun (p15 : Addr) =>
  bnd (ld (.agg (.pair (.int .i64) (.pair (.int .i64) (.int .i64)))) p15) fun (v16 : (Int × (Int × Int))) =>
  bnd (f46_State_2 v14 v16) fun (r17 : Int) =>
  bnd (ret ()) fun _ =>
  ret (!(decide (r17 < (0 : Int))))) (
  bnd (ret ()) fun _ =>
  ret false)) fun (s11 : Bool) =>
  cnd s11 (
  ret (Sum.inl (IntKind.wrap .i64 (s10 + (1 : Int))))) (
  bnd (
  loopM (fun (s18 : Int) =>
  bnd (
  bnd (ordM 100 5 (regionIn 5 Tryz.f100)) fun (o20 : List Nat) =>
  cnd (decide (s10 ≤ s18)) (
  bnd (ix 3 x0 x1) fun (p21 : Addr) =>
  bnd (ld (.agg (.pair (.int .i64) (.pair (.int .i64) (.int .i64)))) p21) fun (v22 : (Int × (Int × Int))) =>
  bnd (ix 3 x0 s18) fun (p23 : Addr) =>
  bnd (ld (.agg (.pair (.int .i64) (.pair (.int .i64) (.int .i64)))) p23) fun (v24 : (Int × (Int × Int))) =>
  bnd (f46_State_2 v22 v24) fun (r25 : Int) =>
  bnd (ret ()) fun _ =>
  ret (decide (r25 < (0 : Int)))) (
  bnd (ret ()) fun _ =>
  ret false)) fun (s19 : Bool) =>
  cnd s19 (
  ret (Sum.inl (IntKind.wrap .i64 (s18 - (1 : Int))))) (
  bnd (
  cnd (decide (s10 > s18)) (
  ret (Sum.inr s10)) (
  bnd (
  bnd (ordM 100 8 (regionIn 8 Tryz.f100)) fun (o27 : List Nat) =>
  bnd (ix 3 x0 s18) fun (p28 : Addr) =>
  bnd (ld (.agg (.pair (.int .i64) (.pair (.int .i64) (.int .i64)))) p28) fun (v29 : (Int × (Int × Int))) =>
  bnd (ix 3 x0 s10) fun (p30 : Addr) =>
  bnd (ld (.agg (.pair (.int .i64) (.pair (.int .i64) (.int .i64)))) p30) fun (v31 : (Int × (Int × Int))) =>
  bnd (ix 3 x0 s10) fun (p32 : Addr) =>
  bnd (wrs p32 0 [.int .i64 v29.1, .int .i64 v29.2.1, .int .i64 v29.2.2]) fun _ =>
  bnd (ret ()) fun _ =>
  bnd (ix 3 x0 s18) fun (p33 : Addr) =>
  bnd (wrs p33 0 [.int .i64 v31.1, .int .i64 v31.2.1, .int .i64 v31.2.2]) fun _ =>
  bnd (ret ()) fun _ =>
  ret ()) fun (s26 : Unit) =>
  ret (Sum.inl ((IntKind.wrap .i64 (s10 + (1 : Int))), (IntKind.wrap .i64 (s18 - (1 : Int))))))) fun r34 =>
  ret (Sum.inr r34))) s9.2) fun r35 =>
  ret (Sum.inr r35))) s9.1) ((IntKind.wrap .i64 (x1 + (1 : Int))), (IntKind.wrap .i64 (x2 - (1 : Int))))
noncomputable def Af100_partitionEqual : Ann := (.two .nil (.two (.join [] [13, 14, 15, 16, 17, 18, 19, 20, 21, 22, 23, 24, 25, 26] false (.ord 100 [(0, 65534), (0, 65533), (0, 65531), (0, 65527), (0, 65519), (0, 65503), (48, 65423), (64, 65343), (0, 65279), (0, 65023), (768, 63743), (1024, 62463), (2291, 61436), (6387, 53119), (16383, 49139), (32767, 14335)] (.o 0 (.o 1 (.o 2 (.o 3 (.o 4 (.o 5 (.o 6 (.o 7 (.o 8 (.o 9 (.o 10 (.o 11 (.o 12 (.o 13 (.o 14 (.o 15 .done)))))))))))))))))) (.two .nil (.two (.one (.loop [(11, (.int .i64)), (12, (.int .i64))] [31, 32, 33, 34, 35, 36, 37, 38, 39, 40, 41, 42, 43, 44, 45, 46, 47, 48, 49, 50, 51, 52, 53, 54, 55, 56, 57, 58, 59, 60, 61, 62, 63, 64, 65, 66, 67, 68, 69, 70, 71, 72, 73, 74, 75, 76, 77, 78, 79, 80, 81, 82, 83, 84, 85, 86, 87, 88] (.one (.two (.one (.loop [(11, (.int .i64))] [31, 32, 33, 34, 35, 36, 37, 38, 39, 40, 41, 42, 43, 44, 45, 46, 47, 48, 49] (.two (.two (.join [(47, .bool)] [31, 32, 33, 34, 35, 36, 37, 38, 39, 40, 41, 42, 43, 44, 45, 46] false (.ord 100 [(0, 131070), (0, 131069), (3, 131064), (4, 131059), (8, 131047), (8, 131031), (8, 130999), (104, 130839), (136, 130679), (8, 130551), (8, 130039), (1544, 127479), (2056, 124919), (4376, 118503), (8200, 106487), (16392, 81911), (32776, 32759)] (.o 0 (.o 1 (.o 2 (.o 3 (.s 34 (.o 4 (.o 5 (.o 6 (.o 7 (.o 8 (.o 9 (.o 10 (.o 11 (.o 12 (.o 13 (.o 14 (.o 15 (.o 16 .done))))))))))))) (.o 4 (.o 5 (.o 6 (.o 7 (.o 8 (.o 9 (.o 10 (.o 11 (.o 12 (.o 13 (.o 14 (.o 15 (.o 16 .done)))))))))))))))))))) (.two .nil .nil)) (.one .nil)))) (.two (.one (.loop [(12, (.int .i64))] [50, 51, 52, 53, 54, 55, 56, 57, 58, 59, 60, 61, 62, 63, 64, 65, 66, 67] (.two (.two (.join [(65, .bool)] [50, 51, 52, 53, 54, 55, 56, 57, 58, 59, 60, 61, 62, 63, 64] false (.ord 100 [(0, 65534), (0, 65533), (3, 65528), (4, 65523), (8, 65511), (8, 65495), (8, 65463), (104, 65303), (136, 65143), (8, 65015), (8, 64503), (1544, 61943), (2056, 59383), (4376, 52967), (8200, 40951), (16392, 16375)] (.o 0 (.o 1 (.o 2 (.o 3 (.s 53 (.o 4 (.o 5 (.o 6 (.o 7 (.o 8 (.o 9 (.o 10 (.o 11 (.o 12 (.o 13 (.o 14 (.o 15 .done)))))))))))) (.o 4 (.o 5 (.o 6 (.o 7 (.o 8 (.o 9 (.o 10 (.o 11 (.o 12 (.o 13 (.o 14 (.o 15 .done))))))))))))))))))) (.two .nil .nil)) (.one .nil)))) (.two (.two .nil (.two .nil .nil)) (.two (.join [] [71, 72, 73, 74, 75, 76, 77, 78, 79, 80, 81, 82, 83, 84] false (.ord 100 [(0, 65534), (0, 65533), (0, 65531), (0, 65527), (0, 65519), (0, 65503), (48, 65423), (64, 65343), (0, 65279), (0, 65023), (768, 63743), (1024, 62463), (2291, 61436), (6387, 53119), (16383, 49139), (32767, 14335)] (.o 0 (.o 1 (.o 2 (.o 3 (.o 4 (.o 5 (.o 6 (.o 7 (.o 8 (.o 9 (.o 10 (.o 11 (.o 12 (.o 13 (.o 14 (.o 15 .done)))))))))))))))))) (.two .nil .nil)))))))) (.two .nil .nil)))))
theorem Cf100_partitionEqual_ok : Cf100_partitionEqual.Ok := mkC_ok mixed tysOk zerosOk eqsOk ⟨Sf46_State_2, trivial⟩ trivial
theorem Ef100_partitionEqual (x : (Sl × (Int × (Int × (Int × Unit))))) : evF Cf100_partitionEqual Tryz.f100 90 (.pair .sl (.pair (.int .i64) (.pair (.int .i64) (.pair (.int .i64) (.clo 46 .unit))))) (.int .i64) Af100_partitionEqual x = f100_partitionEqual x.1 x.2.1 x.2.2.1 x.2.2.2.1 x.2.2.2.2 := by kernel_rfl
theorem Sf100_partitionEqual : SoundF Tryz.prog 100 ⟨(.pair .sl (.pair (.int .i64) (.pair (.int .i64) (.pair (.int .i64) (.clo 46 .unit))))), (.int .i64), fun x => f100_partitionEqual x.1 x.2.1 x.2.2.1 x.2.2.2.1 x.2.2.2.2⟩ :=
  soundF_of Cf100_partitionEqual_ok Tryz.func100 (by kernel_rfl) (by kernel_rfl) Ef100_partitionEqual
noncomputable def Cf101_partition : Ctx := mkC Tryz.prog tys zeros eqs [(46, ⟨(.pair (.agg (.pair (.int .i64) (.pair (.int .i64) (.int .i64)))) (.agg (.pair (.int .i64) (.pair (.int .i64) (.int .i64))))), (.int .i64), fun x => f46_State_2 x.1 x.2⟩)] []
/-- slices.partitionCmpFuncpalaversched.timer -/
noncomputable def f101_partition (x0 : Sl) (x1 : Int) (x2 : Int) (x3 : Int) (x4 : Unit) : M (Int × Bool) :=
  bnd (
  bnd (ordM 101 1 (regionIn 1 Tryz.f101)) fun (o2 : List Nat) =>
  bnd (ix 3 x0 x3) fun (p3 : Addr) =>
  bnd (ld (.agg (.pair (.int .i64) (.pair (.int .i64) (.int .i64)))) p3) fun (v4 : (Int × (Int × Int))) =>
  bnd (ix 3 x0 x1) fun (p5 : Addr) =>
  bnd (ld (.agg (.pair (.int .i64) (.pair (.int .i64) (.int .i64)))) p5) fun (v6 : (Int × (Int × Int))) =>
  bnd (ix 3 x0 x1) fun (p7 : Addr) =>
  bnd (wrs p7 0 [.int .i64 v4.1, .int .i64 v4.2.1, .int .i64 v4.2.2]) fun _ =>
  bnd (ret ()) fun _ =>
  bnd (ix 3 x0 x3) fun (p8 : Addr) =>
  bnd (wrs p8 0 [.int .i64 v6.1, .int .i64 v6.2.1, .int .i64 v6.2.2]) fun _ =>
  bnd (ret ()) fun _ =>
  ret ()) fun (s1 : Unit) =>
  loopM (fun (s9 : Int) =>
  bnd (
  bnd (ordM 101 3 (regionIn 3 Tryz.f101)) fun (o11 : List Nat) =>
  cnd (decide (s9 ≤ (IntKind.wrap .i64 (x2 - (1 : Int))))) (
  bnd (ix 3 x0 s9) fun (p12 : Addr) =>
  bnd (ld (.agg (.pair (.int .i64) (.pair (.int .i64) (.int .i64)))) p12) fun (v13 : (Int × (Int × Int))) =>
  bnd (ix 3 x0 x1) fun (p14 : Addr) =>
  bnd (ld (.agg (.pair (.int .i64) (.pair (.int .i64) (.int .i64)))) p14) fun (v15 : (Int × (Int × Int))) =>
  bnd (f46_State_2 v13 v15) fun (r16 : Int) =>
  bnd (ret ()) fun _ =>
  ret (decide (r16 < (0 : Int)))) (
  bnd (ret ()) fun _ =>
  ret false)) fun (s10 : Bool) =>
  cnd s10 (
  ret (Sum.inl (IntKind.wrap .i64 (s9 + (1 : Int))))) (
  bnd (
  loopM (fun (s17 : Int) =>
  bnd (
  bnd (ordM 101 5 (regionIn 5 Tryz.f101)) fun (o19 : List Nat) =>
  cnd (decide (s9 ≤ s17)) (
  bnd (ix 3 x0 s17) fun (p20 : Addr) =>
  bnd (ld (.agg (.pair (.int .i64) (.pair (.int .i64) (.int .i64)))) p20) fun (v21 : (Int × (Int × Int))) =>
  bnd (ix 3 x0 x1) fun (p22 : Addr) =>
  bnd (ld (.agg (.pair (.int .i64) (.pair (.int .i64) (.int .i64)))) p22) fun (v23 : (Int × (Int × Int))) =>
  bnd (f46_State_2 v21 v23) fun (r24 : Int) =>
  bnd (ret ()) fun _ =>
  ret (!(decide (r24 < (0 : Int))))) (
  bnd (ret ()) fun _ =>
  ret false)) fun (s18 : Bool) =>
  cnd s18 (
  ret (Sum.inl (IntKind.wrap .i64 (s17 - (1 : Int))))) (
  bnd (
  cnd (decide (s9 > s17)) (
  bnd (
  bnd (ordM 101 8 (regionIn 8 Tryz.f101)) fun (o26 : List Nat) =>
  bnd (ix 3 x0 x1) fun (p27 : Addr) =>
  bnd (ld (.agg (.pair (.int .i64) (.pair (.int .i64) (.int .i64)))) p27) fun (v28 : (Int × (Int × Int))) =>
  bnd (ix 3 x0 s17) fun (p29 : Addr) =>
  bnd (ld (.agg (.pair (.int .i64) (.pair (.int .i64) (.int .i64)))) p29) fun (v30 : (Int × (Int × Int))) =>
  bnd (ix 3 x0 s17) fun (p31 : Addr) =>
  bnd (wrs p31 0 [.int .i64 v28.1, .int .i64 v28.2.1, .int .i64 v28.2.2]) fun _ =>
  bnd (ret ()) fun _ =>
  bnd (ix 3 x0 x1) fun (p32 : Addr) =>
  bnd (wrs p32 0 [.int .i64 v30.1, .int .i64 v30.2.1, .int .i64 v30.2.2]) fun _ =>
  bnd (ret ()) fun _ =>
  ret ()) fun (s25 : Unit) =>
  ret (s17, true)) (
  bnd (
  bnd (ordM 101 10 (regionIn 10 Tryz.f101)) fun (o34 : List Nat) =>
  bnd (ix 3 x0 s17) fun (p35 : Addr) =>
  bnd (ld (.agg (.pair (.int .i64) (.pair (.int .i64) (.int .i64)))) p35) fun (v36 : (Int × (Int × Int))) =>
  bnd (ix 3 x0 s9) fun (p37 : Addr) =>
  bnd (ld (.agg (.pair (.int .i64) (.pair (.int .i64) (.int .i64)))) p37) fun (v38 : (Int × (Int × Int))) =>
  bnd (ix 3 x0 s9) fun (p39 : Addr) =>
  bnd (wrs p39 0 [.int .i64 v36.1, .int .i64 v36.2.1, .int .i64 v36.2.2]) fun _ =>
  bnd (ret ()) fun _ =>
  bnd (ix 3 x0 s17) fun (p40 : Addr) =>
  bnd (wrs p40 0 [.int .i64 v38.1, .int .i64 v38.2.1, .int .i64 v38.2.2]) fun _ =>
  bnd (ret ()) fun _ =>
  ret ()) fun (s33 : Unit) =>
  loopM (fun (s41 : (Int × Int)) =>
  loopM (fun (s42 : Int) =>
  bnd (
  bnd (ordM 101 13 (regionIn 13 Tryz.f101)) fun (o44 : List Nat) =>
  cnd (decide (s42 ≤ s41.2)) (
  bnd (ix 3 x0 s42) fun (p45 : Addr) =>
  bnd (ld (.agg (.pair (.int .i64) (.pair (.int .i64) (.int .i64)))) p45) fun (v46 : (Int × (Int × Int))) =>
  bnd (ix 3 x0 x1) fun (p47 : Addr) =>
  bnd (ld (.agg (.pair (.int .i64) (.pair (.int .i64) (.int .i64)))) p47) fun (v48 : (Int × (Int × Int))) =>
  bnd (f46_State_2 v46 v48) fun (r49 : Int) =>
  bnd (ret ()) fun _ =>
  ret (decide (r49 < (0 : Int)))) (
  bnd (ret ()) fun _ =>
  ret false)) fun (s43 : Bool) =>
  cnd s43 (
  ret (Sum.inl (IntKind.wrap .i64 (s42 + (1 : Int))))) (
  bnd (
  loopM (fun (s50 : Int) =>
  bnd (
  bnd (ordM 101 15 (regionIn 15 Tryz.f101)) fun (o52 : List Nat) =>
  cnd (decide (s42 ≤ s50)) (
  bnd (ix 3 x0 s50) fun (p53 : Addr) =>
  bnd (ld (.agg (.pair (.int .i64) (.pair (.int .i64) (.int .i64)))) p53) fun (v54 : (Int × (Int × Int))) =>
  bnd (ix 3 x0 x1) fun (p55 : Addr) =>
  bnd (ld (.agg (.pair (.int .i64) (.pair (.int .i64) (.int .i64)))) p55) fun (v56 : (Int × (Int × Int))) =>
  bnd (f46_State_2 v54 v56) fun (r57 : Int) =>
  bnd (ret ()) fun _ =>
  ret (!(decide (r57 < (0 : Int))))) (
  bnd (ret ()) fun _ =>
  ret false)) fun (s51 : Bool) =>
  cnd s51 (
  ret (Sum.inl (IntKind.wrap .i64 (s50 - (1 : Int))))) (
  bnd (
  cnd (decide (s42 > s50)) (
  bnd (
  bnd (
  bnd (ordM 101 21 (regionIn 21 Tryz.f101)) fun (o59 : List Nat) =>
  bnd (ix 3 x0 x1) fun (p60 : Addr) =>
  bnd (ld (.agg (.pair (.int .i64) (.pair (.int .i64) (.int .i64)))) p60) fun (v61 : (Int × (Int × Int))) =>
  bnd (ix 3 x0 s50) fun (p62 : Addr) =>
  bnd (ld (.agg (.pair (.int .i64) (.pair (.int .i64) (.int .i64)))) p62) fun (v63 : (Int × (Int × Int))) =>
  bnd (ix 3 x0 s50) fun (p64 : Addr) =>
  bnd (wrs p64 0 [.int .i64 v61.1, .int .i64 v61.2.1, .int .i64 v61.2.2]) fun _ =>
  bnd (ret ()) fun _ =>
  bnd (ix 3 x0 x1) fun (p65 : Addr) =>
  bnd (wrs p65 0 [.int .i64 v63.1, .int .i64 v63.2.1, .int .i64 v63.2.2]) fun _ =>
  bnd (ret ()) fun _ =>
  ret ()) fun (s58 : Unit) =>
  ret (s50, false)) fun r66 =>
  ret (Sum.inr r66)) (
  bnd (
  bnd (ordM 101 18 (regionIn 18 Tryz.f101)) fun (o68 : List Nat) =>
  bnd (ix 3 x0 s50) fun (p69 : Addr) =>
  bnd (ld (.agg (.pair (.int .i64) (.pair (.int .i64) (.int .i64)))) p69) fun (v70 : (Int × (Int × Int))) =>
  bnd (ix 3 x0 s42) fun (p71 : Addr) =>
  bnd (ld (.agg (.pair (.int .i64) (.pair (.int .i64) (.int .i64)))) p71) fun (v72 : (Int × (Int × Int))) =>
  bnd (ix 3 x0 s42) fun (p73 : Addr) =>
  bnd (wrs p73 0 [.int .i64 v70.1, .int .i64 v70.2.1, .int .i64 v70.2.2]) fun _ =>
  bnd (ret ()) fun _ =>
  bnd (ix 3 x0 s50) fun (p74 : Addr) =>
  bnd (wrs p74 0 [.int .i64 v72.1, .int .i64 v72.2.1, .int .i64 v72.2.2]) fun _ =>
  bnd (ret ()) fun _ =>
  ret ()) fun (s67 : Unit) =>
  ret (Sum.inl ((IntKind.wrap .i64 (s42 + (1 : Int))), (IntKind.wrap .i64 (s50 - (1 : Int))))))) fun r75 =>
  ret (Sum.inr r75))) s41.2) fun r76 =>
  ret (Sum.inr r76))) s41.1) ((IntKind.wrap .i64 (s9 + (1 : Int))), (IntKind.wrap .i64 (s17 - (1 : Int)))))) fun r77 =>
  ret (Sum.inr r77))) (IntKind.wrap .i64 (x2 - (1 : Int)))) fun r78 =>
  ret (Sum.inr r78))) (IntKind.wrap .i64 (x1 + (1 : Int)))
noncomputable def Af101_partition : Ann := (.two .nil (.two (.join [] [14, 15, 16, 17, 18, 19, 20, 21, 22, 23, 24, 25, 26, 27] false (.ord 101 [(0, 65534), (0, 65533), (0, 65531), (0, 65527), (0, 65519), (0, 65503), (48, 65423), (64, 65343), (0, 65279), (0, 65023), (768, 63743), (1024, 62463), (2291, 61436), (6387, 53119), (16383, 49139), (32767, 14335)] (.o 0 (.o 1 (.o 2 (.o 3 (.o 4 (.o 5 (.o 6 (.o 7 (.o 8 (.o 9 (.o 10 (.o 11 (.o 12 (.o 13 (.o 14 (.o 15 .done)))))))))))))))))) (.two .nil (.two (.one (.loop [(12, (.int .i64))] [32, 33, 34, 35, 36, 37, 38, 39, 40, 41, 42, 43, 44, 45, 46, 47, 48, 49] (.two (.two (.join [(47, .bool)] [32, 33, 34, 35, 36, 37, 38, 39, 40, 41, 42, 43, 44, 45, 46] false (.ord 101 [(0, 65534), (0, 65533), (3, 65528), (4, 65523), (8, 65511), (8, 65495), (8, 65463), (104, 65303), (136, 65143), (8, 65015), (8, 64503), (1544, 61943), (2056, 59383), (4376, 52967), (8200, 40951), (16392, 16375)] (.o 0 (.o 1 (.o 2 (.o 3 (.s 35 (.o 4 (.o 5 (.o 6 (.o 7 (.o 8 (.o 9 (.o 10 (.o 11 (.o 12 (.o 13 (.o 14 (.o 15 .done)))))))))))) (.o 4 (.o 5 (.o 6 (.o 7 (.o 8 (.o 9 (.o 10 (.o 11 (.o 12 (.o 13 (.o 14 (.o 15 .done))))))))))))))))))) (.two .nil .nil)) (.one .nil)))) (.two (.one (.loop [(13, (.int .i64))] [50, 51, 52, 53, 54, 55, 56, 57, 58, 59, 60, 61, 62, 63, 64, 65, 66, 67, 68] (.two (.two (.join [(66, .bool)] [50, 51, 52, 53, 54, 55, 56, 57, 58, 59, 60, 61, 62, 63, 64, 65] false (.ord 101 [(0, 131070), (0, 131069), (3, 131064), (4, 131059), (8, 131047), (8, 131031), (8, 130999), (104, 130839), (136, 130679), (8, 130551), (8, 130039), (1544, 127479), (2056, 124919), (4376, 118503), (8200, 106487), (16392, 81911), (32776, 32759)] (.o 0 (.o 1 (.o 2 (.o 3 (.s 53 (.o 4 (.o 5 (.o 6 (.o 7 (.o 8 (.o 9 (.o 10 (.o 11 (.o 12 (.o 13 (.o 14 (.o 15 (.o 16 .done))))))))))))) (.o 4 (.o 5 (.o 6 (.o 7 (.o 8 (.o 9 (.o 10 (.o 11 (.o 12 (.o 13 (.o 14 (.o 15 (.o 16 .done)))))))))))))))))))) (.two .nil .nil)) (.one .nil)))) (.two (.two .nil (.two (.two (.join [] [72, 73, 74, 75, 76, 77, 78, 79, 80, 81, 82, 83, 84, 85] false (.ord 101 [(0, 65534), (0, 65533), (0, 65531), (0, 65527), (0, 65519), (0, 65503), (48, 65423), (64, 65343), (0, 65279), (0, 65023), (768, 63743), (1024, 62463), (2291, 61436), (6387, 53119), (16383, 49139), (32767, 14335)] (.o 0 (.o 1 (.o 2 (.o 3 (.o 4 (.o 5 (.o 6 (.o 7 (.o 8 (.o 9 (.o 10 (.o 11 (.o 12 (.o 13 (.o 14 (.o 15 .done)))))))))))))))))) (.two .nil .nil)) .nil)) (.two (.join [] [87, 88, 89, 90, 91, 92, 93, 94, 95, 96, 97, 98, 99, 100] false (.ord 101 [(0, 65534), (0, 65533), (0, 65531), (0, 65527), (0, 65519), (0, 65503), (48, 65423), (64, 65343), (0, 65279), (0, 65023), (768, 63743), (1024, 62463), (2291, 61436), (6387, 53119), (16383, 49139), (32767, 14335)] (.o 0 (.o 1 (.o 2 (.o 3 (.o 4 (.o 5 (.o 6 (.o 7 (.o 8 (.o 9 (.o 10 (.o 11 (.o 12 (.o 13 (.o 14 (.o 15 .done)))))))))))))))))) (.two .nil (.two .nil (.two (.one (.loop [(12, (.int .i64)), (13, (.int .i64))] [105, 106, 107, 108, 109, 110, 111, 112, 113, 114, 115, 116, 117, 118, 119, 120, 121, 122, 123, 124, 125, 126, 127, 128, 129, 130, 131, 132, 133, 134, 135, 136, 137, 138, 139, 140, 141, 142, 143, 144, 145, 146, 147, 148, 149, 150, 151, 152, 153, 154, 155, 156, 157, 158, 159, 160, 161, 162] (.one (.two (.one (.loop [(12, (.int .i64))] [105, 106, 107, 108, 109, 110, 111, 112, 113, 114, 115, 116, 117, 118, 119, 120, 121, 122] (.two (.two (.join [(120, .bool)] [105, 106, 107, 108, 109, 110, 111, 112, 113, 114, 115, 116, 117, 118, 119] false (.ord 101 [(0, 65534), (0, 65533), (3, 65528), (4, 65523), (8, 65511), (8, 65495), (8, 65463), (104, 65303), (136, 65143), (8, 65015), (8, 64503), (1544, 61943), (2056, 59383), (4376, 52967), (8200, 40951), (16392, 16375)] (.o 0 (.o 1 (.o 2 (.o 3 (.s 108 (.o 4 (.o 5 (.o 6 (.o 7 (.o 8 (.o 9 (.o 10 (.o 11 (.o 12 (.o 13 (.o 14 (.o 15 .done)))))))))))) (.o 4 (.o 5 (.o 6 (.o 7 (.o 8 (.o 9 (.o 10 (.o 11 (.o 12 (.o 13 (.o 14 (.o 15 .done))))))))))))))))))) (.two .nil .nil)) (.one .nil)))) (.two (.one (.loop [(13, (.int .i64))] [123, 124, 125, 126, 127, 128, 129, 130, 131, 132, 133, 134, 135, 136, 137, 138, 139, 140, 141] (.two (.two (.join [(139, .bool)] [123, 124, 125, 126, 127, 128, 129, 130, 131, 132, 133, 134, 135, 136, 137, 138] false (.ord 101 [(0, 131070), (0, 131069), (3, 131064), (4, 131059), (8, 131047), (8, 131031), (8, 130999), (104, 130839), (136, 130679), (8, 130551), (8, 130039), (1544, 127479), (2056, 124919), (4376, 118503), (8200, 106487), (16392, 81911), (32776, 32759)] (.o 0 (.o 1 (.o 2 (.o 3 (.s 126 (.o 4 (.o 5 (.o 6 (.o 7 (.o 8 (.o 9 (.o 10 (.o 11 (.o 12 (.o 13 (.o 14 (.o 15 (.o 16 .done))))))))))))) (.o 4 (.o 5 (.o 6 (.o 7 (.o 8 (.o 9 (.o 10 (.o 11 (.o 12 (.o 13 (.o 14 (.o 15 (.o 16 .done)))))))))))))))))))) (.two .nil .nil)) (.one .nil)))) (.two (.two .nil (.two .nil .nil)) (.two (.join [] [145, 146, 147, 148, 149, 150, 151, 152, 153, 154, 155, 156, 157, 158] false (.ord 101 [(0, 65534), (0, 65533), (0, 65531), (0, 65527), (0, 65519), (0, 65503), (48, 65423), (64, 65343), (0, 65279), (0, 65023), (768, 63743), (1024, 62463), (2291, 61436), (6387, 53119), (16383, 49139), (32767, 14335)] (.o 0 (.o 1 (.o 2 (.o 3 (.o 4 (.o 5 (.o 6 (.o 7 (.o 8 (.o 9 (.o 10 (.o 11 (.o 12 (.o 13 (.o 14 (.o 15 .done)))))))))))))))))) (.two .nil .nil)))))))) (.two (.join [] [163, 164, 165, 166, 167, 168, 169, 170, 171, 172, 173, 174, 175, 176] false (.ord 101 [(0, 65534), (0, 65533), (0, 65531), (0, 65527), (0, 65519), (0, 65503), (48, 65423), (64, 65343), (0, 65279), (0, 65023), (768, 63743), (1024, 62463), (2291, 61436), (6387, 53119), (16383, 49139), (32767, 14335)] (.o 0 (.o 1 (.o 2 (.o 3 (.o 4 (.o 5 (.o 6 (.o 7 (.o 8 (.o 9 (.o 10 (.o 11 (.o 12 (.o 13 (.o 14 (.o 15 .done)))))))))))))))))) (.two .nil .nil))))))))))))
theorem Cf101_partition_ok : Cf101_partition.Ok := mkC_ok mixed tysOk zerosOk eqsOk ⟨Sf46_State_2, trivial⟩ trivial
theorem Ef101_partition (x : (Sl × (Int × (Int × (Int × Unit))))) : evF Cf101_partition Tryz.f101 178 (.pair .sl (.pair (.int .i64) (.pair (.int .i64) (.pair (.int .i64) (.clo 46 .unit))))) (.tup (.pair (.int .i64) .bool)) Af101_partition x = f101_partition x.1 x.2.1 x.2.2.1 x.2.2.2.1 x.2.2.2.2 := by kernel_rfl
theorem Sf101_partition : SoundF Tryz.prog 101 ⟨(.pair .sl (.pair (.int .i64) (.pair (.int .i64) (.pair (.int .i64) (.clo 46 .unit))))), (.tup (.pair (.int .i64) .bool)), fun x => f101_partition x.1 x.2.1 x.2.2.1 x.2.2.2.1 x.2.2.2.2⟩ :=
  soundF_of Cf101_partition_ok Tryz.func101 (by kernel_rfl) (by kernel_rfl) Ef101_partition
noncomputable def Cf82_pdqsort (R49 : Sl → Int → Int → Int → Unit → M Unit) : Ctx := mkC Tryz.prog tys zeros eqs [(46, ⟨(.pair (.agg (.pair (.int .i64) (.pair (.int .i64) (.int .i64)))) (.agg (.pair (.int .i64) (.pair (.int .i64) (.int .i64))))), (.int .i64), fun x => f46_State_2 x.1 x.2⟩), (82, ⟨(.pair .sl (.pair (.int .i64) (.pair (.int .i64) (.pair (.int .i64) (.clo 46 .unit))))), (.tup .unit), fun x => R49 x.1 x.2.1 x.2.2.1 x.2.2.2.1 x.2.2.2.2⟩), (94, ⟨(.pair .sl (.pair (.int .i64) (.pair (.int .i64) (.clo 46 .unit)))), (.tup .unit), fun x => f94_insertion x.1 x.2.1 x.2.2.1 x.2.2.2⟩), (95, ⟨(.pair .sl (.pair (.int .i64) (.pair (.int .i64) (.clo 46 .unit)))), (.tup .unit), fun x => f95_heapSort x.1 x.2.1 x.2.2.1 x.2.2.2⟩), (96, ⟨(.pair .sl (.pair (.int .i64) (.pair (.int .i64) (.clo 46 .unit)))), (.tup .unit), fun x => f96_breakPatterns x.1 x.2.1 x.2.2.1 x.2.2.2⟩), (97, ⟨(.pair .sl (.pair (.int .i64) (.pair (.int .i64) (.clo 46 .unit)))), (.tup (.pair (.int .i64) (.int .i64))), fun x => f97_choosePivot x.1 x.2.1 x.2.2.1 x.2.2.2⟩), (98, ⟨(.pair .sl (.pair (.int .i64) (.pair (.int .i64) (.clo 46 .unit)))), (.tup .unit), fun x => f98_reverseRange x.1 x.2.1 x.2.2.1 x.2.2.2⟩), (99, ⟨(.pair .sl (.pair (.int .i64) (.pair (.int .i64) (.clo 46 .unit)))), .bool, fun x => f99_partialInsertion x.1 x.2.1 x.2.2.1 x.2.2.2⟩), (100, ⟨(.pair .sl (.pair (.int .i64) (.pair (.int .i64) (.pair (.int .i64) (.clo 46 .unit))))), (.int .i64), fun x => f100_partitionEqual x.1 x.2.1 x.2.2.1 x.2.2.2.1 x.2.2.2.2⟩), (101, ⟨(.pair .sl (.pair (.int .i64) (.pair (.int .i64) (.pair (.int .i64) (.clo 46 .unit))))), (.tup (.pair (.int .i64) .bool)), fun x => f101_partition x.1 x.2.1 x.2.2.1 x.2.2.2.1 x.2.2.2.2⟩)] []
/-- slices.pdqsortCmpFuncpalaversched.timer -/
noncomputable def f82_pdqsort (R49 : Sl → Int → Int → Int → Unit → M Unit) (x0 : Sl) (x1 : Int) (x2 : Int) (x3 : Int) (x4 : Unit) : M Unit :=
  loopM (fun (s1 : (Int × (Int × (Int × (Bool × Bool))))) =>
  bnd (
  cnd (decide ((IntKind.wrap .i64 (s1.2.1 - s1.1)) ≤ (12 : Int))) (
  bnd (f94_insertion x0 s1.1 s1.2.1 x4) fun (r3 : Unit) =>
  ret (Sum.inr (Sum.inr ()))) (
  cnd (s1.2.2.1 == (0 : Int)) (
  bnd (f95_heapSort x0 s1.1 s1.2.1 x4) fun (r5 : Unit) =>
  ret (Sum.inr (Sum.inr ()))) (
  bnd (
  cnd (!s1.2.2.2.1) (
  bnd (f96_breakPatterns x0 s1.1 s1.2.1 x4) fun (r8 : Unit) =>
  ret (IntKind.wrap .i64 (s1.2.2.1 - (1 : Int)))) (
  ret s1.2.2.1)) fun (s7 : Int) =>
  bnd (f97_choosePivot x0 s1.1 s1.2.1 x4) fun (r9 : (Int × Int)) =>
  bnd (
  cnd (r9.2 == (2 : Int)) (
  bnd (f98_reverseRange x0 s1.1 s1.2.1 x4) fun (r11 : Unit) =>
  ret ((IntKind.wrap .i64 ((IntKind.wrap .i64 (s1.2.1 - (1 : Int))) - (IntKind.wrap .i64 (r9.1 - s1.1)))), (1 : Int))) (
  ret (r9.1, r9.2))) fun (s10 : (Int × Int)) =>
  bnd (
  cnd (cond (cond s1.2.2.2.1 s1.2.2.2.2 false) (s10.2 == (1 : Int)) false) (
  bnd (f99_partialInsertion x0 s1.1 s1.2.1 x4) fun (r13 : Bool) =>
  cnd r13 (
  ret (Sum.inr (Sum.inr (Sum.inr ())))) (
  ret (Sum.inl ()))) (
  ret (Sum.inl ()))) (fun
  | .inl (s12 : Unit) =>
  bnd (
  bnd (ordM 82 17 (regionIn 17 Tryz.f82)) fun (o18 : List Nat) =>
  cnd (decide (s1.1 > (0 : Int))) (
  bnd (ix 3 x0 (IntKind.wrap .i64 (s1.1 - (1 : Int)))) fun (p19 : Addr) =>
  bnd (ld (.agg (.pair (.int .i64) (.pair (.int .i64) (.int .i64)))) p19) fun (v20 : (Int × (Int × Int))) =>
  bnd (ix 3 x0 s10.1) fun (p21 : Addr) =>
  bnd (ld (.agg (.pair (.int .i64) (.pair (.int .i64) (.int .i64)))) p21) fun (v22 : (Int × (Int × Int))) =>
  bnd (f46_State_2 v20 v22) fun (r23 : Int) =>
  bnd (ret ()) fun _ =>
  ret (!(decide (r23 < (0 : Int))))) (
  bnd (ret ()) fun _ =>
  ret false)) fun (s17 : Bool) =>
  cnd s17 (
  bnd (f100_partitionEqual x0 s1.1 s1.2.1 s10.1 x4) fun (r24 : Int) =>
  ret (Sum.inl (r24, s1.2.1, s7, s1.2.2.2.1, s1.2.2.2.2))) (
  bnd (f101_partition x0 s1.1 s1.2.1 s10.1 x4) fun (r25 : (Int × Bool)) =>
  bnd (
  cnd (decide ((IntKind.wrap .i64 (r25.1 - s1.1)) < (IntKind.wrap .i64 (s1.2.1 - r25.1)))) (
  bnd (R49 x0 s1.1 r25.1 s7 x4) fun (r27 : Unit) =>
  ret ((IntKind.wrap .i64 (r25.1 + (1 : Int))), s1.2.1, (decide ((IntKind.wrap .i64 (r25.1 - s1.1)) ≥ (IntKind.wrap .i64 (Int.tdiv (IntKind.wrap .i64 (s1.2.1 - s1.1)) (8 : Int))))))) (
  bnd (R49 x0 (IntKind.wrap .i64 (r25.1 + (1 : Int))) s1.2.1 s7 x4) fun (r28 : Unit) =>
  ret (s1.1, r25.1, (decide ((IntKind.wrap .i64 (s1.2.1 - r25.1)) ≥ (IntKind.wrap .i64 (Int.tdiv (IntKind.wrap .i64 (s1.2.1 - s1.1)) (8 : Int)))))))) fun (s26 : (Int × (Int × Bool))) =>
  ret (Sum.inl (s26.1, s26.2.1, s7, s26.2.2, r25.2)))
  | .inr r29 => ret r29)))) (fun
  | .inl (s2 : (Int × (Int × (Int × (Bool × Bool))))) =>
  ret (Sum.inl (s2.1, s2.2.1, s2.2.2.1, s2.2.2.2.1, s2.2.2.2.2))
  | .inr r31 => ret r31)) (x1, x2, x3, true, true)
noncomputable def Af82_pdqsort : Ann := (.two .nil (.two .nil (.one (.loop [(1, (.int .i64)), (2, (.int .i64)), (3, (.int .i64)), (10, .bool), (11, .bool)] [12, 13, 14, 15, 16, 17, 18, 19, 20, 21, 22, 23, 24, 25, 26, 27, 28, 29, 30, 31, 32, 33, 34, 35, 36, 37, 38, 39, 40, 41, 42, 43, 44, 45, 46, 47, 48, 49, 50, 51, 52, 53, 54, 55, 56, 57, 58, 59, 60, 61, 62, 63, 64, 65, 66, 67, 68, 69, 70, 71, 72, 73, 74, 75, 76, 77, 78, 79, 80, 81, 82, 83, 84, 85, 86, 87, 88, 89, 90, 91, 92, 93, 94, 95, 96, 97, 98, 99, 100, 101, 102, 103, 104, 105, 106, 107, 108, 109, 110, 111, 112, 113, 114, 115, 116, 117, 118, 119, 120, 121, 122, 123, 124, 125, 126, 127, 128, 129, 130, 131, 132, 133, 134, 135, 136, 137, 138, 139, 140, 141, 142, 143, 144, 145, 146, 147] (.join [(1, (.int .i64)), (2, (.int .i64)), (3, (.int .i64)), (10, .bool), (11, .bool)] [12, 13, 14, 15, 16, 17, 18, 19, 20, 21, 22, 23, 24, 25, 26, 27, 28, 29, 30, 31, 32, 33, 34, 35, 36, 37, 38, 39, 40, 41, 42, 43, 44, 45, 46, 47, 48, 49, 50, 51, 52, 53, 54, 55, 56, 57, 58, 59, 60, 61, 62, 63, 64, 65, 66, 67, 68, 69, 70, 71, 72, 73, 74, 75, 76, 77, 78, 79, 80, 81, 82, 83, 84, 85, 86, 87, 88, 89, 90, 91, 92, 93, 94, 95, 96, 97, 98, 99, 100, 101, 102, 103, 104, 105, 106, 107, 108, 109, 110, 111, 112, 113, 114, 115, 116, 117, 118, 119, 120, 121, 122, 123, 124, 125, 126, 127, 128, 129, 130, 131, 132, 133, 134, 135, 136, 137, 138, 139, 140, 141, 142, 143, 144, 145, 146, 147] true (.one (.two .nil (.two (.two .nil (.two (.two .nil .nil) .nil)) (.two (.two .nil (.two (.two .nil .nil) .nil)) (.two (.two .nil (.join [(3, (.int .i64))] [40, 41, 42, 43, 44, 45, 46] false (.two (.two .nil .nil) .nil))) (.two .nil (.two (.two .nil (.join [(13, (.int .i64)), (14, (.int .i64))] [57, 58, 59, 60, 61, 62, 63, 64, 65, 66, 67] false (.two (.two .nil (.two .nil .nil)) .nil))) (.two (.two .nil (.join [] [76, 77, 78, 79, 80] true (.two (.two .nil (.two .nil .nil)) .nil))) (.two (.two (.join [(97, .bool)] [81, 82, 83, 84, 85, 86, 87, 88, 89, 90, 91, 92, 93, 94, 95, 96] false (.ord 82 [(0, 131070), (1, 131068), (2, 131065), (4, 131059), (4, 131051), (4, 131035), (36, 130971), (84, 130859), (132, 130683), (4, 130555), (4, 130043), (1540, 127483), (2052, 124923), (4364, 118515), (8196, 106491), (16388, 81915), (32772, 32763)] (.o 0 (.o 1 (.o 2 (.s 83 (.o 3 (.o 4 (.o 5 (.o 6 (.o 7 (.o 8 (.o 9 (.o 10 (.o 11 (.o 12 (.o 13 (.o 14 (.o 15 (.o 16 .done)))))))))))))) (.o 3 (.o 4 (.o 5 (.o 6 (.o 7 (.o 8 (.o 9 (.o 10 (.o 11 (.o 12 (.o 13 (.o 14 (.o 15 (.o 16 .done)))))))))))))))))))) (.two (.two .nil (.two .nil .nil)) .nil)) (.two .nil (.two .nil (.two .nil (.two .nil (.two .nil (.join [(1, (.int .i64)), (2, (.int .i64)), (10, .bool)] [126, 127, 128, 129, 130, 131, 132, 133, 134, 135, 136, 137, 138, 139, 140, 141, 142, 143, 144, 145, 146, 147] false (.two (.two .nil (.two .nil .nil)) (.two .nil (.two .nil .nil)))))))))))))))))))))))
theorem Cf82_pdqsort_ok (R49 : Sl → Int → Int → Int → Unit → M Unit) (hR : SoundF Tryz.prog 82 ⟨(.pair .sl (.pair (.int .i64) (.pair (.int .i64) (.pair (.int .i64) (.clo 46 .unit))))), (.tup .unit), fun x => R49 x.1 x.2.1 x.2.2.1 x.2.2.2.1 x.2.2.2.2⟩) : (Cf82_pdqsort R49).Ok := mkC_ok mixed tysOk zerosOk eqsOk ⟨Sf46_State_2, hR, Sf94_insertion, Sf95_heapSort, Sf96_breakPatterns, Sf97_choosePivot, Sf98_reverseRange, Sf99_partialInsertion, Sf100_partitionEqual, Sf101_partition, trivial⟩ trivial
theorem Ef82_pdqsort (R49 : Sl → Int → Int → Int → Unit → M Unit) (x : (Sl × (Int × (Int × (Int × Unit))))) : evF (Cf82_pdqsort R49) Tryz.f82 148 (.pair .sl (.pair (.int .i64) (.pair (.int .i64) (.pair (.int .i64) (.clo 46 .unit))))) (.tup .unit) Af82_pdqsort x = f82_pdqsort R49 x.1 x.2.1 x.2.2.1 x.2.2.2.1 x.2.2.2.2 := by kernel_rfl
/-- So often it calls itself at most. -/
noncomputable def pdqN : Nat → Sl → Int → Int → Int → Unit → M Unit
  | 0 => fun _ _ _ _ _ => fail
  | n + 1 => fun a b c d e => f82_pdqsort (pdqN n) a b c d e
theorem pdqN_sound : ∀ n, SoundF Tryz.prog 82 ⟨(.pair .sl (.pair (.int .i64) (.pair (.int .i64) (.pair (.int .i64) (.clo 46 .unit))))), (.tup .unit), fun x => pdqN n x.1 x.2.1 x.2.2.1 x.2.2.2.1 x.2.2.2.2⟩
  | 0 => ⟨⟨_, Tryz.func82, by kernel_rfl, by kernel_rfl⟩, fun _ _ _ _ h => by cases h⟩
  | n + 1 => soundF_of (Cf82_pdqsort_ok (pdqN n) (pdqN_sound n)) Tryz.func82 (by kernel_rfl) (by kernel_rfl) (Ef82_pdqsort (pdqN n))
noncomputable def f82_pdq (x0 : Sl) (x1 : Int) (x2 : Int) (x3 : Int) (x4 : Unit) : M Unit := pdqN (x0.len + 1) x0 x1 x2 x3 x4
theorem Sf82_pdq : SoundF Tryz.prog 82 ⟨(.pair .sl (.pair (.int .i64) (.pair (.int .i64) (.pair (.int .i64) (.clo 46 .unit))))), (.tup .unit), fun x => f82_pdq x.1 x.2.1 x.2.2.1 x.2.2.2.1 x.2.2.2.2⟩ :=
  ⟨(pdqN_sound 0).1, fun x w y w' h => (pdqN_sound (x.1.len + 1)).2 x w y w' h⟩
noncomputable def Cf45_SortFunc : Ctx := mkC Tryz.prog tys zeros eqs [(82, ⟨(.pair .sl (.pair (.int .i64) (.pair (.int .i64) (.pair (.int .i64) (.clo 46 .unit))))), (.tup .unit), fun x => f82_pdq x.1 x.2.1 x.2.2.1 x.2.2.2.1 x.2.2.2.2⟩), (83, ⟨(.int .u64), (.int .i64), fun x => f83_bits_Len x⟩)] []
/-- slices.SortFuncpalaversched.timerspalaversched.timer -/
noncomputable def f45_SortFunc (x0 : Sl) (x1 : Unit) : M Unit :=
  bnd (f83_bits_Len (IntKind.wrap .u64 (x0.len : Int))) fun (r1 : Int) =>
  bnd (f82_pdq x0 (0 : Int) (x0.len : Int) r1 x1) fun (r2 : Unit) =>
  ret ()
noncomputable def Af45_SortFunc : Ann := (.two .nil .nil)
theorem Cf45_SortFunc_ok : Cf45_SortFunc.Ok := mkC_ok mixed tysOk zerosOk eqsOk ⟨Sf82_pdq, Sf83_bits_Len, trivial⟩ trivial
theorem Ef45_SortFunc (x : (Sl × Unit)) : evF Cf45_SortFunc Tryz.f45 14 (.pair .sl (.clo 46 .unit)) (.tup .unit) Af45_SortFunc x = f45_SortFunc x.1 x.2 := by kernel_rfl
theorem Sf45_SortFunc : SoundF Tryz.prog 45 ⟨(.pair .sl (.clo 46 .unit)), (.tup .unit), fun x => f45_SortFunc x.1 x.2⟩ :=
  soundF_of Cf45_SortFunc_ok Tryz.func45 (by kernel_rfl) (by kernel_rfl) Ef45_SortFunc
noncomputable def Cf9_State : Ctx := mkC Tryz.prog tys zeros eqs [(43, ⟨(.pair .sl .adr), (.tup .unit), fun x => f43_State_1 x.1 x.2⟩), (44, ⟨.sl, .sl, fun x => f44_Clonetm x⟩), (45, ⟨(.pair .sl (.clo 46 .unit)), (.tup .unit), fun x => f45_SortFunc x.1 x.2⟩)] []
/-- (*palaversched.Sched).State -/
noncomputable def f9_State (x0 : Option Addr) : M Sl :=
  bnd (
  bnd (ordM 9 1 (regionIn 1 Tryz.f9)) fun (o2 : List Nat) =>
  bnd (drf x0) fun (p3 : Addr) =>
  bnd (ld (.int .i64) (Addr.add p3 0)) fun (v4 : Int) =>
  bnd (drf x0) fun (p5 : Addr) =>
  bnd (ld (.int .i64) (Addr.add p5 1)) fun (v6 : Int) =>
  bnd (drf x0) fun (p7 : Addr) =>
  bnd (ld .sl (Addr.add p7 2)) fun (v8 : Sl) =>
  cnd (bef o2 13 14) (
  bnd (runV Tryz.prog .sl (Instr.buildSlice 28 3 #[(0, .int .i64 v4), (1, .int .i64 v6), (2, .int .i64 (v8.len : Int))])) fun (v9 : Sl) =>
  bnd (
  bnd (chk .sl (Addr.add p7 2) v8) fun _ =>
  ret ()) fun _ =>
  bnd (newC 28 [.slice none 0 0]) fun (p10 : Addr) =>
  bnd (
  bnd (chk .sl (Addr.add p7 2) v8) fun _ =>
  ret ()) fun _ =>
  bnd (wrs p10 0 [.slice v9.a v9.len v9.cap]) fun _ =>
  bnd (ret ()) fun _ =>
  ret p10) (
  bnd (newC 28 [.slice none 0 0]) fun (p11 : Addr) =>
  bnd (
  bnd (chk .sl (Addr.add p7 2) v8) fun _ =>
  bnd (chk (.int .i64) (Addr.add p5 1) v6) fun _ =>
  bnd (chk (.int .i64) (Addr.add p3 0) v4) fun _ =>
  ret ()) fun _ =>
  bnd (runV Tryz.prog .sl (Instr.buildSlice 28 3 #[(0, .int .i64 v4), (1, .int .i64 v6), (2, .int .i64 (v8.len : Int))])) fun (v12 : Sl) =>
  bnd (
  bnd (chk .sl (Addr.add p7 2) v8) fun _ =>
  ret ()) fun _ =>
  bnd (wrs p11 0 [.slice v12.a v12.len v12.cap]) fun _ =>
  bnd (ret ()) fun _ =>
  ret p11)) fun (s1 : Addr) =>
  bnd (drf x0) fun (p13 : Addr) =>
  bnd (ld .sl (Addr.add p13 2)) fun (v14 : Sl) =>
  loopM (fun (s15 : Int) =>
  cnd (decide (s15 < (v14.len : Int))) (
  bnd (ix 3 v14 s15) fun (p16 : Addr) =>
  bnd (ld (.agg (.pair (.int .i64) (.pair (.int .u8) (.int .i64)))) p16) fun (v17 : (Int × (Int × Int))) =>
  bnd (newC 74 [.int .i64 (0 : Int), .int .u8 (0 : Int), .int .i64 (0 : Int)]) fun (p18 : Addr) =>
  bnd (wrs p18 0 [.int .i64 v17.1, .int .u8 v17.2.1, .int .i64 v17.2.2]) fun _ =>
  bnd (ld .sl s1) fun (v19 : Sl) =>
  bnd (ld (.int .i64) (Addr.add p18 0)) fun (v20 : Int) =>
  bnd (ld (.int .u8) (Addr.add p18 1)) fun (v21 : Int) =>
  bnd (runV Tryz.prog .sl (Instr.buildSlice 28 2 #[(0, .int .i64 v20), (1, .int .i64 (IntKind.wrap .i64 v21))])) fun (v22 : Sl) =>
  bnd (runV Tryz.prog .sl (Builtin.append_ #[28, 28] 28 #[.slice v19.a v19.len v19.cap, .slice v22.a v22.len v22.cap])) fun (v23 : Sl) =>
  bnd (wrs s1 0 [.slice v23.a v23.len v23.cap]) fun _ =>
  ret (Sum.inl (IntKind.wrap .i64 (s15 + (1 : Int))))) (
  bnd (
  bnd (
  bnd (ordM 9 8 (regionIn 8 Tryz.f9)) fun (o25 : List Nat) =>
  bnd (ld .sl s1) fun (v26 : Sl) =>
  bnd (drf x0) fun (p27 : Addr) =>
  bnd (ld .sl (Addr.add p27 3)) fun (v28 : Sl) =>
  bnd (runV Tryz.prog .sl (Instr.buildSlice 28 1 #[(0, .int .i64 (v28.len : Int))])) fun (v29 : Sl) =>
  bnd (
  bnd (chk .sl (Addr.add p27 3) v28) fun _ =>
  bnd (chk .sl s1 v26) fun _ =>
  ret ()) fun _ =>
  bnd (runV Tryz.prog .sl (Builtin.append_ #[28, 28] 28 #[.slice v26.a v26.len v26.cap, .slice v29.a v29.len v29.cap])) fun (v30 : Sl) =>
  bnd (
  bnd (chk .sl (Addr.add p27 3) v28) fun _ =>
  ret ()) fun _ =>
  bnd (wrs s1 0 [.slice v30.a v30.len v30.cap]) fun _ =>
  bnd (ret ()) fun _ =>
  ret ()) fun (s24 : Unit) =>
  bnd (drf x0) fun (p31 : Addr) =>
  bnd (ld .sl (Addr.add p31 3)) fun (v32 : Sl) =>
  loopM (fun (s33 : Int) =>
  cnd (decide (s33 < (v32.len : Int))) (
  bnd (ix 2 v32 s33) fun (p34 : Addr) =>
  bnd (ld (.agg (.pair (.int .i64) .sl)) p34) fun (v35 : (Int × Sl)) =>
  bnd (newC 76 [.int .i64 (0 : Int), .slice none 0 0]) fun (p36 : Addr) =>
  bnd (wrs p36 0 [.int .i64 v35.1, .slice v35.2.a v35.2.len v35.2.cap]) fun _ =>
  bnd (ld .sl s1) fun (v37 : Sl) =>
  bnd (ld (.int .i64) (Addr.add p36 0)) fun (v38 : Int) =>
  bnd (runV Tryz.prog .sl (Instr.buildSlice 28 1 #[(0, .int .i64 v38)])) fun (v39 : Sl) =>
  bnd (runV Tryz.prog .sl (Builtin.append_ #[28, 28] 28 #[.slice v37.a v37.len v37.cap, .slice v39.a v39.len v39.cap])) fun (v40 : Sl) =>
  bnd (wrs s1 0 [.slice v40.a v40.len v40.cap]) fun _ =>
  bnd (ld .sl (Addr.add p36 1)) fun (v41 : Sl) =>
  bnd (f43_State_1 v41 s1) fun (r42 : Unit) =>
  ret (Sum.inl (IntKind.wrap .i64 (s33 + (1 : Int))))) (
  bnd (
  loopM (fun (s43 : Int) =>
  cnd (decide (s43 ≤ (16 : Int))) (
  bnd (drf x0) fun (p44 : Addr) =>
  bnd (ixA 17 1 (Addr.add p44 4) s43) fun (p45 : Addr) =>
  bnd (ld .sl p45) fun (v46 : Sl) =>
  bnd (f43_State_1 v46 s1) fun (r47 : Unit) =>
  ret (Sum.inl (IntKind.wrap .i64 (s43 + (1 : Int))))) (
  bnd (
  bnd (drf x0) fun (p48 : Addr) =>
  bnd (ld .sl (Addr.add p48 21)) fun (v49 : Sl) =>
  bnd (f44_Clonetm v49) fun (r50 : Sl) =>
  bnd (f45_SortFunc r50 ()) fun (r51 : Unit) =>
  bnd (ld .sl s1) fun (v52 : Sl) =>
  bnd (runV Tryz.prog .sl (Instr.buildSlice 28 1 #[(0, .int .i64 (r50.len : Int))])) fun (v53 : Sl) =>
  bnd (runV Tryz.prog .sl (Builtin.append_ #[28, 28] 28 #[.slice v52.a v52.len v52.cap, .slice v53.a v53.len v53.cap])) fun (v54 : Sl) =>
  bnd (wrs s1 0 [.slice v54.a v54.len v54.cap]) fun _ =>
  loopM (fun (s55 : Int) =>
  cnd (decide (s55 < (r50.len : Int))) (
  bnd (ix 3 r50 s55) fun (p56 : Addr) =>
  bnd (ld (.agg (.pair (.int .i64) (.pair (.int .i64) (.int .i64)))) p56) fun (v57 : (Int × (Int × Int))) =>
  bnd (newC 79 [.int .i64 (0 : Int), .int .i64 (0 : Int), .int .i64 (0 : Int)]) fun (p58 : Addr) =>
  bnd (wrs p58 0 [.int .i64 v57.1, .int .i64 v57.2.1, .int .i64 v57.2.2]) fun _ =>
  bnd (ld .sl s1) fun (v59 : Sl) =>
  bnd (ld (.int .i64) (Addr.add p58 0)) fun (v60 : Int) =>
  bnd (ld (.int .i64) (Addr.add p58 2)) fun (v61 : Int) =>
  bnd (runV Tryz.prog .sl (Instr.buildSlice 28 2 #[(0, .int .i64 v60), (1, .int .i64 v61)])) fun (v62 : Sl) =>
  bnd (runV Tryz.prog .sl (Builtin.append_ #[28, 28] 28 #[.slice v59.a v59.len v59.cap, .slice v62.a v62.len v62.cap])) fun (v63 : Sl) =>
  bnd (wrs s1 0 [.slice v63.a v63.len v63.cap]) fun _ =>
  ret (Sum.inl (IntKind.wrap .i64 (s55 + (1 : Int))))) (
  bnd (
  bnd (drf x0) fun (p64 : Addr) =>
  bnd (ld (.agg (.pair (.int .i64) (.pair (.int .i64) (.pair (.int .i64) (.pair (.int .i64) (.pair (.int .i64) (.pair (.int .i64) (.pair (.int .i64) (.pair (.int .i64) (.pair (.int .i64) (.pair (.int .i64) (.pair (.int .i64) (.pair (.int .i64) (.pair (.int .i64) (.pair (.int .i64) (.pair (.int .i64) (.pair (.int .i64) (.pair (.int .i64) (.pair (.int .i64) (.pair (.int .i64) (.pair (.int .i64) (.pair (.int .i64) (.pair (.int .i64) (.pair (.int .i64) (.pair (.int .i64) (.pair (.int .i64) (.pair (.int .i64) (.pair (.int .i64) (.pair (.int .i64) (.pair (.int .i64) (.pair (.int .i64) (.pair (.int .i64) (.pair (.int .i64) (.pair (.int .i64) (.pair (.int .i64) (.pair (.int .i64) (.pair (.int .i64) (.pair (.int .i64) (.pair (.int .i64) (.pair (.int .i64) (.pair (.int .i64) (.pair (.int .i64) (.pair (.int .i64) (.pair (.int .i64) (.pair (.int .i64) (.pair (.int .i64) (.pair (.int .i64) (.pair (.int .i64) (.pair (.int .i64) (.pair (.int .i64) (.pair (.int .i64) (.pair (.int .i64) (.pair (.int .i64) (.pair (.int .i64) (.pair (.int .i64) (.pair (.int .i64) (.pair (.int .i64) (.pair (.int .i64) (.pair (.int .i64) (.pair (.int .i64) (.pair (.int .i64) (.pair (.int .i64) (.pair (.int .i64) (.pair (.int .i64) (.int .i64))))))))))))))))))))))))))))))))))))))))))))))))))))))))))))))))) (Addr.add p64 23)) fun (v65 : (Int × (Int × (Int × (Int × (Int × (Int × (Int × (Int × (Int × (Int × (Int × (Int × (Int × (Int × (Int × (Int × (Int × (Int × (Int × (Int × (Int × (Int × (Int × (Int × (Int × (Int × (Int × (Int × (Int × (Int × (Int × (Int × (Int × (Int × (Int × (Int × (Int × (Int × (Int × (Int × (Int × (Int × (Int × (Int × (Int × (Int × (Int × (Int × (Int × (Int × (Int × (Int × (Int × (Int × (Int × (Int × (Int × (Int × (Int × (Int × (Int × (Int × (Int × Int)))))))))))))))))))))))))))))))))))))))))))))))))))))))))))))))) =>
  loopM (fun (s66 : (Sl × Int)) =>
  cnd (decide (s66.2 < (64 : Int))) (
  bnd (ixG (.int .i64) [.int .i64 v65.1, .int .i64 v65.2.1, .int .i64 v65.2.2.1, .int .i64 v65.2.2.2.1, .int .i64 v65.2.2.2.2.1, .int .i64 v65.2.2.2.2.2.1, .int .i64 v65.2.2.2.2.2.2.1, .int .i64 v65.2.2.2.2.2.2.2.1, .int .i64 v65.2.2.2.2.2.2.2.2.1, .int .i64 v65.2.2.2.2.2.2.2.2.2.1, .int .i64 v65.2.2.2.2.2.2.2.2.2.2.1, .int .i64 v65.2.2.2.2.2.2.2.2.2.2.2.1, .int .i64 v65.2.2.2.2.2.2.2.2.2.2.2.2.1, .int .i64 v65.2.2.2.2.2.2.2.2.2.2.2.2.2.1, .int .i64 v65.2.2.2.2.2.2.2.2.2.2.2.2.2.2.1, .int .i64 v65.2.2.2.2.2.2.2.2.2.2.2.2.2.2.2.1, .int .i64 v65.2.2.2.2.2.2.2.2.2.2.2.2.2.2.2.2.1, .int .i64 v65.2.2.2.2.2.2.2.2.2.2.2.2.2.2.2.2.2.1, .int .i64 v65.2.2.2.2.2.2.2.2.2.2.2.2.2.2.2.2.2.2.1, .int .i64 v65.2.2.2.2.2.2.2.2.2.2.2.2.2.2.2.2.2.2.2.1, .int .i64 v65.2.2.2.2.2.2.2.2.2.2.2.2.2.2.2.2.2.2.2.2.1, .int .i64 v65.2.2.2.2.2.2.2.2.2.2.2.2.2.2.2.2.2.2.2.2.2.1, .int .i64 v65.2.2.2.2.2.2.2.2.2.2.2.2.2.2.2.2.2.2.2.2.2.2.1, .int .i64 v65.2.2.2.2.2.2.2.2.2.2.2.2.2.2.2.2.2.2.2.2.2.2.2.1, .int .i64 v65.2.2.2.2.2.2.2.2.2.2.2.2.2.2.2.2.2.2.2.2.2.2.2.2.1, .int .i64 v65.2.2.2.2.2.2.2.2.2.2.2.2.2.2.2.2.2.2.2.2.2.2.2.2.2.1, .int .i64 v65.2.2.2.2.2.2.2.2.2.2.2.2.2.2.2.2.2.2.2.2.2.2.2.2.2.2.1, .int .i64 v65.2.2.2.2.2.2.2.2.2.2.2.2.2.2.2.2.2.2.2.2.2.2.2.2.2.2.2.1, .int .i64 v65.2.2.2.2.2.2.2.2.2.2.2.2.2.2.2.2.2.2.2.2.2.2.2.2.2.2.2.2.1, .int .i64 v65.2.2.2.2.2.2.2.2.2.2.2.2.2.2.2.2.2.2.2.2.2.2.2.2.2.2.2.2.2.1, .int .i64 v65.2.2.2.2.2.2.2.2.2.2.2.2.2.2.2.2.2.2.2.2.2.2.2.2.2.2.2.2.2.2.1, .int .i64 v65.2.2.2.2.2.2.2.2.2.2.2.2.2.2.2.2.2.2.2.2.2.2.2.2.2.2.2.2.2.2.2.1, .int .i64 v65.2.2.2.2.2.2.2.2.2.2.2.2.2.2.2.2.2.2.2.2.2.2.2.2.2.2.2.2.2.2.2.2.1, .int .i64 v65.2.2.2.2.2.2.2.2.2.2.2.2.2.2.2.2.2.2.2.2.2.2.2.2.2.2.2.2.2.2.2.2.2.1, .int .i64 v65.2.2.2.2.2.2.2.2.2.2.2.2.2.2.2.2.2.2.2.2.2.2.2.2.2.2.2.2.2.2.2.2.2.2.1, .int .i64 v65.2.2.2.2.2.2.2.2.2.2.2.2.2.2.2.2.2.2.2.2.2.2.2.2.2.2.2.2.2.2.2.2.2.2.2.1, .int .i64 v65.2.2.2.2.2.2.2.2.2.2.2.2.2.2.2.2.2.2.2.2.2.2.2.2.2.2.2.2.2.2.2.2.2.2.2.2.1, .int .i64 v65.2.2.2.2.2.2.2.2.2.2.2.2.2.2.2.2.2.2.2.2.2.2.2.2.2.2.2.2.2.2.2.2.2.2.2.2.2.1, .int .i64 v65.2.2.2.2.2.2.2.2.2.2.2.2.2.2.2.2.2.2.2.2.2.2.2.2.2.2.2.2.2.2.2.2.2.2.2.2.2.2.1, .int .i64 v65.2.2.2.2.2.2.2.2.2.2.2.2.2.2.2.2.2.2.2.2.2.2.2.2.2.2.2.2.2.2.2.2.2.2.2.2.2.2.2.1, .int .i64 v65.2.2.2.2.2.2.2.2.2.2.2.2.2.2.2.2.2.2.2.2.2.2.2.2.2.2.2.2.2.2.2.2.2.2.2.2.2.2.2.2.1, .int .i64 v65.2.2.2.2.2.2.2.2.2.2.2.2.2.2.2.2.2.2.2.2.2.2.2.2.2.2.2.2.2.2.2.2.2.2.2.2.2.2.2.2.2.1, .int .i64 v65.2.2.2.2.2.2.2.2.2.2.2.2.2.2.2.2.2.2.2.2.2.2.2.2.2.2.2.2.2.2.2.2.2.2.2.2.2.2.2.2.2.2.1, .int .i64 v65.2.2.2.2.2.2.2.2.2.2.2.2.2.2.2.2.2.2.2.2.2.2.2.2.2.2.2.2.2.2.2.2.2.2.2.2.2.2.2.2.2.2.2.1, .int .i64 v65.2.2.2.2.2.2.2.2.2.2.2.2.2.2.2.2.2.2.2.2.2.2.2.2.2.2.2.2.2.2.2.2.2.2.2.2.2.2.2.2.2.2.2.2.1, .int .i64 v65.2.2.2.2.2.2.2.2.2.2.2.2.2.2.2.2.2.2.2.2.2.2.2.2.2.2.2.2.2.2.2.2.2.2.2.2.2.2.2.2.2.2.2.2.2.1, .int .i64 v65.2.2.2.2.2.2.2.2.2.2.2.2.2.2.2.2.2.2.2.2.2.2.2.2.2.2.2.2.2.2.2.2.2.2.2.2.2.2.2.2.2.2.2.2.2.2.1, .int .i64 v65.2.2.2.2.2.2.2.2.2.2.2.2.2.2.2.2.2.2.2.2.2.2.2.2.2.2.2.2.2.2.2.2.2.2.2.2.2.2.2.2.2.2.2.2.2.2.2.1, .int .i64 v65.2.2.2.2.2.2.2.2.2.2.2.2.2.2.2.2.2.2.2.2.2.2.2.2.2.2.2.2.2.2.2.2.2.2.2.2.2.2.2.2.2.2.2.2.2.2.2.2.1, .int .i64 v65.2.2.2.2.2.2.2.2.2.2.2.2.2.2.2.2.2.2.2.2.2.2.2.2.2.2.2.2.2.2.2.2.2.2.2.2.2.2.2.2.2.2.2.2.2.2.2.2.2.1, .int .i64 v65.2.2.2.2.2.2.2.2.2.2.2.2.2.2.2.2.2.2.2.2.2.2.2.2.2.2.2.2.2.2.2.2.2.2.2.2.2.2.2.2.2.2.2.2.2.2.2.2.2.2.1, .int .i64 v65.2.2.2.2.2.2.2.2.2.2.2.2.2.2.2.2.2.2.2.2.2.2.2.2.2.2.2.2.2.2.2.2.2.2.2.2.2.2.2.2.2.2.2.2.2.2.2.2.2.2.2.1, .int .i64 v65.2.2.2.2.2.2.2.2.2.2.2.2.2.2.2.2.2.2.2.2.2.2.2.2.2.2.2.2.2.2.2.2.2.2.2.2.2.2.2.2.2.2.2.2.2.2.2.2.2.2.2.2.1, .int .i64 v65.2.2.2.2.2.2.2.2.2.2.2.2.2.2.2.2.2.2.2.2.2.2.2.2.2.2.2.2.2.2.2.2.2.2.2.2.2.2.2.2.2.2.2.2.2.2.2.2.2.2.2.2.2.1, .int .i64 v65.2.2.2.2.2.2.2.2.2.2.2.2.2.2.2.2.2.2.2.2.2.2.2.2.2.2.2.2.2.2.2.2.2.2.2.2.2.2.2.2.2.2.2.2.2.2.2.2.2.2.2.2.2.2.1, .int .i64 v65.2.2.2.2.2.2.2.2.2.2.2.2.2.2.2.2.2.2.2.2.2.2.2.2.2.2.2.2.2.2.2.2.2.2.2.2.2.2.2.2.2.2.2.2.2.2.2.2.2.2.2.2.2.2.2.1, .int .i64 v65.2.2.2.2.2.2.2.2.2.2.2.2.2.2.2.2.2.2.2.2.2.2.2.2.2.2.2.2.2.2.2.2.2.2.2.2.2.2.2.2.2.2.2.2.2.2.2.2.2.2.2.2.2.2.2.2.1, .int .i64 v65.2.2.2.2.2.2.2.2.2.2.2.2.2.2.2.2.2.2.2.2.2.2.2.2.2.2.2.2.2.2.2.2.2.2.2.2.2.2.2.2.2.2.2.2.2.2.2.2.2.2.2.2.2.2.2.2.2.1, .int .i64 v65.2.2.2.2.2.2.2.2.2.2.2.2.2.2.2.2.2.2.2.2.2.2.2.2.2.2.2.2.2.2.2.2.2.2.2.2.2.2.2.2.2.2.2.2.2.2.2.2.2.2.2.2.2.2.2.2.2.2.1, .int .i64 v65.2.2.2.2.2.2.2.2.2.2.2.2.2.2.2.2.2.2.2.2.2.2.2.2.2.2.2.2.2.2.2.2.2.2.2.2.2.2.2.2.2.2.2.2.2.2.2.2.2.2.2.2.2.2.2.2.2.2.2.1, .int .i64 v65.2.2.2.2.2.2.2.2.2.2.2.2.2.2.2.2.2.2.2.2.2.2.2.2.2.2.2.2.2.2.2.2.2.2.2.2.2.2.2.2.2.2.2.2.2.2.2.2.2.2.2.2.2.2.2.2.2.2.2.2.1, .int .i64 v65.2.2.2.2.2.2.2.2.2.2.2.2.2.2.2.2.2.2.2.2.2.2.2.2.2.2.2.2.2.2.2.2.2.2.2.2.2.2.2.2.2.2.2.2.2.2.2.2.2.2.2.2.2.2.2.2.2.2.2.2.2.1, .int .i64 v65.2.2.2.2.2.2.2.2.2.2.2.2.2.2.2.2.2.2.2.2.2.2.2.2.2.2.2.2.2.2.2.2.2.2.2.2.2.2.2.2.2.2.2.2.2.2.2.2.2.2.2.2.2.2.2.2.2.2.2.2.2.2.1, .int .i64 v65.2.2.2.2.2.2.2.2.2.2.2.2.2.2.2.2.2.2.2.2.2.2.2.2.2.2.2.2.2.2.2.2.2.2.2.2.2.2.2.2.2.2.2.2.2.2.2.2.2.2.2.2.2.2.2.2.2.2.2.2.2.2.2] 64 s66.2) fun (v67 : Int) =>
  bnd (
  cnd (decide (v67 > (0 : Int))) (
  bnd (runV Tryz.prog .sl (Instr.buildSlice 28 2 #[(0, .int .i64 s66.2), (1, .int .i64 v67)])) fun (v69 : Sl) =>
  bnd (runV Tryz.prog .sl (Builtin.append_ #[28, 28] 28 #[.slice s66.1.a s66.1.len s66.1.cap, .slice v69.a v69.len v69.cap])) fun (v70 : Sl) =>
  ret v70) (
  ret s66.1)) fun (s68 : Sl) =>
  ret (Sum.inl (s68, (IntKind.wrap .i64 (s66.2 + (1 : Int)))))) (
  bnd (
  bnd (ld .sl s1) fun (v71 : Sl) =>
  bnd (runV Tryz.prog .sl (Instr.buildSlice 28 1 #[(0, .int .i64 (IntKind.wrap .i64 (Int.tdiv (s66.1.len : Int) (2 : Int))))])) fun (v72 : Sl) =>
  bnd (runV Tryz.prog .sl (Builtin.append_ #[28, 28] 28 #[.slice v71.a v71.len v71.cap, .slice v72.a v72.len v72.cap])) fun (v73 : Sl) =>
  bnd (wrs s1 0 [.slice v73.a v73.len v73.cap]) fun _ =>
  bnd (ld .sl s1) fun (v74 : Sl) =>
  bnd (runV Tryz.prog .sl (Builtin.append_ #[28, 28] 28 #[.slice v74.a v74.len v74.cap, .slice s66.1.a s66.1.len s66.1.cap])) fun (v75 : Sl) =>
  ret v75) fun r76 =>
  ret (Sum.inr r76))) ((Sl.mk none 0 0), (0 : Int))) fun r77 =>
  ret (Sum.inr r77))) (0 : Int)) fun r78 =>
  ret (Sum.inr r78))) (1 : Int)) fun r79 =>
  ret (Sum.inr r79))) (0 : Int)) fun r80 =>
  ret (Sum.inr r80))) (0 : Int)
noncomputable def Af9_State : Ann := (.two .nil (.two (.join [(3, .adr)] [16, 17, 18, 19, 20, 21, 22, 23, 24, 25, 26, 27, 28, 29] false (.ord 9 [(0, 65534), (1, 65532), (2, 65529), (4, 65523), (0, 65519), (16, 65487), (32, 65439), (64, 65343), (0, 65279), (256, 64767), (512, 63999), (1024, 62463), (2048, 59391), (4232, 53111), (0, 49151), (32767, 8191)] (.o 0 (.o 1 (.o 2 (.o 3 (.o 4 (.o 5 (.o 6 (.o 7 (.o 8 (.o 9 (.o 10 (.o 11 (.o 12 (.f 13 14 (.o 14 (.o 15 .done)) (.o 13 (.o 15 .done)))))))))))))))))) (.two (.two .nil (.one (.loop [(35, (.int .i64))] [5, 36, 37, 38, 39, 40, 41, 42, 43, 44, 45, 46, 47] (.two .nil (.two (.two .nil .nil) (.two (.one (.two .nil .nil)) .nil)))))) (.two .nil (.two (.join [] [49, 50, 51, 52, 53, 54, 55, 56] false (.ord 9 [(0, 510), (0, 509), (2, 505), (4, 499), (8, 487), (16, 463), (32, 415), (65, 318), (255, 127)] (.o 0 (.o 1 (.o 2 (.o 3 (.o 4 (.o 5 (.o 6 (.o 7 (.o 8 .done))))))))))) (.two (.two .nil (.one (.loop [(62, (.int .i64))] [8, 63, 64, 65, 66, 67, 68, 69, 70, 71, 72, 73, 74, 75] (.two .nil (.two (.two .nil .nil) (.two (.one (.two .nil (.two .nil .nil))) .nil)))))) (.two (.two .nil (.one (.loop [(9, (.int .i64))] [76, 77, 78, 79, 80, 81, 82, 83, 84, 85, 86, 87] (.two (.two .nil (.two .nil .nil)) (.two (.one .nil) .nil))))) (.two .nil (.two .nil (.two .nil (.two (.two .nil (.one (.loop [(102, (.int .i64))] [12, 103, 104, 105, 106, 107, 108, 109, 110, 111, 112, 113] (.two .nil (.two (.two .nil .nil) (.two (.one (.two .nil .nil)) .nil)))))) (.two .nil (.two (.two .nil (.one (.loop [(13, .sl), (118, (.int .i64))] [14, 15, 119, 120, 121, 122, 123, 124, 125, 126, 127, 128, 129] (.two .nil (.two (.two .nil .nil) (.two (.one (.two .nil (.two .nil (.join [(13, .sl)] [124, 125, 126, 127, 128] false (.two .nil .nil))))) .nil)))))) (.two .nil (.two .nil .nil)))))))))))))))
theorem Cf9_State_ok : Cf9_State.Ok := mkC_ok mixed tysOk zerosOk eqsOk ⟨Sf43_State_1, Sf44_Clonetm, Sf45_SortFunc, trivial⟩ trivial
theorem Ef9_State (x : Option Addr) : evF Cf9_State Tryz.f9 139 .ptr .sl Af9_State x = f9_State x := by kernel_rfl
theorem Sf9_State : SoundF Tryz.prog 9 ⟨.ptr, .sl, fun x => f9_State x⟩ :=
  soundF_of Cf9_State_ok Tryz.func9 (by kernel_rfl) (by kernel_rfl) Ef9_State
end X
end Go.Proofs.YtkkdeljladihpaaGreat
