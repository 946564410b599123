/-
  Part of the proof: Z03. It states what the functions do; no further condition.
-/
import Derived.Test.YtkkdeljladihpaaGreatZ02
set_option linter.unusedVariables false
set_option linter.unusedSimpArgs false
namespace Go.Proofs.YtkkdeljladihpaaGreat
namespace Y
open Go.Sh X
set_option maxRecDepth 100000
noncomputable def tys : List (Nat × Ty) := [(3, (.int .i64)),
  (4, .bool),
  (9, .str),
  (22, .sl),
  (24, .ptr),
  (26, .ptr),
  (27, .sl),
  (28, .sl),
  (29, .sl),
  (32, (.agg (.pair (.int .i64) (.pair .sl (.pair .sl (.pair .sl (.pair (.agg (.pair (.int .i64) (.pair (.int .i64) (.pair (.int .i64) (.pair (.int .i64) (.pair (.int .i64) (.pair (.int .i64) (.pair (.int .i64) (.pair (.int .i64) (.pair (.int .i64) (.pair (.int .i64) (.pair (.int .i64) (.pair (.int .i64) (.pair (.int .i64) (.pair (.int .i64) (.pair (.int .i64) (.pair (.int .i64) (.pair (.int .i64) (.pair (.int .i64) (.pair (.int .i64) (.pair (.int .i64) (.pair (.int .i64) (.pair (.int .i64) (.pair (.int .i64) (.pair (.int .i64) (.pair (.int .i64) (.pair (.int .i64) (.pair (.int .i64) (.pair (.int .i64) (.pair (.int .i64) (.pair (.int .i64) (.pair (.int .i64) (.pair (.int .i64) (.pair (.int .i64) (.pair (.int .i64) (.pair (.int .i64) (.pair (.int .i64) (.pair (.int .i64) (.pair (.int .i64) (.pair (.int .i64) (.pair (.int .i64) (.pair (.int .i64) (.pair (.int .i64) (.pair (.int .i64) (.pair (.int .i64) (.pair (.int .i64) (.pair (.int .i64) (.pair (.int .i64) (.pair (.int .i64) (.pair (.int .i64) (.pair (.int .i64) (.pair (.int .i64) (.pair (.int .i64) (.pair (.int .i64) (.pair (.int .i64) (.pair (.int .i64) (.pair (.int .i64) (.pair (.int .i64) (.pair (.int .i64) (.pair (.int .i64) (.pair (.int .i64) (.pair (.int .i64) (.pair (.int .i64) (.pair (.int .i64) (.int .i64))))))))))))))))))))))))))))))))))))))))))))))))))))))))))))))))) (.pair (.int .i64) (.int .i64))))))))),
  (35, (.agg (.pair (.int .i64) (.pair (.int .i64) (.int .i64))))),
  (39, .ptr),
  (40, .sl),
  (41, .sl),
  (42, .sl),
  (43, .sl),
  (44, .sl),
  (45, .sl),
  (46, .sl),
  (47, .sl),
  (49, (.agg (.pair .sl (.pair .sl (.pair .sl (.pair .sl (.pair .sl (.pair .sl (.pair .sl .sl))))))))),
  (51, (.int .i64)),
  (70, (.int .u8)),
  (72, (.agg (.pair (.int .i64) (.pair (.int .u8) (.pair (.int .i64) (.int .i64)))))),
  (86, (.agg (.pair (.int .i64) (.pair (.int .i64) (.int .i64))))),
  (113, .sl),
  (114, (.int .u64)),
  (115, .sl),
  (116, (.int .u64)),
  (117, .sl),
  (120, (.agg (.pair (.int .u8) (.pair (.int .i64) (.pair .str (.pair .str (.pair (.int .i64) (.int .i64)))))))),
  (121, .sl),
  (124, (.agg (.pair .str .str))),
  (125, .sl),
  (128, (.agg (.pair (.int .u8) (.pair (.int .i64) .str)))),
  (129, .sl),
  (130, .sl),
  (131, (.int .u32))]
theorem tysOk : AllN (fun T t => tyFitsB Tryz.prog T t = true) tys :=
  ⟨(by kernel_rfl : tyFitsB Tryz.prog 3 (.int .i64) = true),
   (by kernel_rfl : tyFitsB Tryz.prog 4 .bool = true),
   (by kernel_rfl : tyFitsB Tryz.prog 9 .str = true),
   (by kernel_rfl : tyFitsB Tryz.prog 22 .sl = true),
   (by kernel_rfl : tyFitsB Tryz.prog 24 .ptr = true),
   (by kernel_rfl : tyFitsB Tryz.prog 26 .ptr = true),
   (by kernel_rfl : tyFitsB Tryz.prog 27 .sl = true),
   (by kernel_rfl : tyFitsB Tryz.prog 28 .sl = true),
   (by kernel_rfl : tyFitsB Tryz.prog 29 .sl = true),
   (by kernel_rfl : tyFitsB Tryz.prog 32 (.agg (.pair (.int .i64) (.pair .sl (.pair .sl (.pair .sl (.pair (.agg (.pair (.int .i64) (.pair (.int .i64) (.pair (.int .i64) (.pair (.int .i64) (.pair (.int .i64) (.pair (.int .i64) (.pair (.int .i64) (.pair (.int .i64) (.pair (.int .i64) (.pair (.int .i64) (.pair (.int .i64) (.pair (.int .i64) (.pair (.int .i64) (.pair (.int .i64) (.pair (.int .i64) (.pair (.int .i64) (.pair (.int .i64) (.pair (.int .i64) (.pair (.int .i64) (.pair (.int .i64) (.pair (.int .i64) (.pair (.int .i64) (.pair (.int .i64) (.pair (.int .i64) (.pair (.int .i64) (.pair (.int .i64) (.pair (.int .i64) (.pair (.int .i64) (.pair (.int .i64) (.pair (.int .i64) (.pair (.int .i64) (.pair (.int .i64) (.pair (.int .i64) (.pair (.int .i64) (.pair (.int .i64) (.pair (.int .i64) (.pair (.int .i64) (.pair (.int .i64) (.pair (.int .i64) (.pair (.int .i64) (.pair (.int .i64) (.pair (.int .i64) (.pair (.int .i64) (.pair (.int .i64) (.pair (.int .i64) (.pair (.int .i64) (.pair (.int .i64) (.pair (.int .i64) (.pair (.int .i64) (.pair (.int .i64) (.pair (.int .i64) (.pair (.int .i64) (.pair (.int .i64) (.pair (.int .i64) (.pair (.int .i64) (.pair (.int .i64) (.pair (.int .i64) (.pair (.int .i64) (.pair (.int .i64) (.pair (.int .i64) (.pair (.int .i64) (.pair (.int .i64) (.pair (.int .i64) (.int .i64))))))))))))))))))))))))))))))))))))))))))))))))))))))))))))))))) (.pair (.int .i64) (.int .i64)))))))) = true),
   (by kernel_rfl : tyFitsB Tryz.prog 35 (.agg (.pair (.int .i64) (.pair (.int .i64) (.int .i64)))) = true),
   (by kernel_rfl : tyFitsB Tryz.prog 39 .ptr = true),
   (by kernel_rfl : tyFitsB Tryz.prog 40 .sl = true),
   (by kernel_rfl : tyFitsB Tryz.prog 41 .sl = true),
   (by kernel_rfl : tyFitsB Tryz.prog 42 .sl = true),
   (by kernel_rfl : tyFitsB Tryz.prog 43 .sl = true),
   (by kernel_rfl : tyFitsB Tryz.prog 44 .sl = true),
   (by kernel_rfl : tyFitsB Tryz.prog 45 .sl = true),
   (by kernel_rfl : tyFitsB Tryz.prog 46 .sl = true),
   (by kernel_rfl : tyFitsB Tryz.prog 47 .sl = true),
   (by kernel_rfl : tyFitsB Tryz.prog 49 (.agg (.pair .sl (.pair .sl (.pair .sl (.pair .sl (.pair .sl (.pair .sl (.pair .sl .sl)))))))) = true),
   (by kernel_rfl : tyFitsB Tryz.prog 51 (.int .i64) = true),
   (by kernel_rfl : tyFitsB Tryz.prog 70 (.int .u8) = true),
   (by kernel_rfl : tyFitsB Tryz.prog 72 (.agg (.pair (.int .i64) (.pair (.int .u8) (.pair (.int .i64) (.int .i64))))) = true),
   (by kernel_rfl : tyFitsB Tryz.prog 86 (.agg (.pair (.int .i64) (.pair (.int .i64) (.int .i64)))) = true),
   (by kernel_rfl : tyFitsB Tryz.prog 113 .sl = true),
   (by kernel_rfl : tyFitsB Tryz.prog 114 (.int .u64) = true),
   (by kernel_rfl : tyFitsB Tryz.prog 115 .sl = true),
   (by kernel_rfl : tyFitsB Tryz.prog 116 (.int .u64) = true),
   (by kernel_rfl : tyFitsB Tryz.prog 117 .sl = true),
   (by kernel_rfl : tyFitsB Tryz.prog 120 (.agg (.pair (.int .u8) (.pair (.int .i64) (.pair .str (.pair .str (.pair (.int .i64) (.int .i64))))))) = true),
   (by kernel_rfl : tyFitsB Tryz.prog 121 .sl = true),
   (by kernel_rfl : tyFitsB Tryz.prog 124 (.agg (.pair .str .str)) = true),
   (by kernel_rfl : tyFitsB Tryz.prog 125 .sl = true),
   (by kernel_rfl : tyFitsB Tryz.prog 128 (.agg (.pair (.int .u8) (.pair (.int .i64) .str))) = true),
   (by kernel_rfl : tyFitsB Tryz.prog 129 .sl = true),
   (by kernel_rfl : tyFitsB Tryz.prog 130 .sl = true),
   (by kernel_rfl : tyFitsB Tryz.prog 131 (.int .u32) = true), trivial⟩
noncomputable def zeros : List (Nat × TV) := [(32, ⟨(.agg (.pair (.int .i64) (.pair .sl (.pair .sl (.pair .sl (.pair (.agg (.pair (.int .i64) (.pair (.int .i64) (.pair (.int .i64) (.pair (.int .i64) (.pair (.int .i64) (.pair (.int .i64) (.pair (.int .i64) (.pair (.int .i64) (.pair (.int .i64) (.pair (.int .i64) (.pair (.int .i64) (.pair (.int .i64) (.pair (.int .i64) (.pair (.int .i64) (.pair (.int .i64) (.pair (.int .i64) (.pair (.int .i64) (.pair (.int .i64) (.pair (.int .i64) (.pair (.int .i64) (.pair (.int .i64) (.pair (.int .i64) (.pair (.int .i64) (.pair (.int .i64) (.pair (.int .i64) (.pair (.int .i64) (.pair (.int .i64) (.pair (.int .i64) (.pair (.int .i64) (.pair (.int .i64) (.pair (.int .i64) (.pair (.int .i64) (.pair (.int .i64) (.pair (.int .i64) (.pair (.int .i64) (.pair (.int .i64) (.pair (.int .i64) (.pair (.int .i64) (.pair (.int .i64) (.pair (.int .i64) (.pair (.int .i64) (.pair (.int .i64) (.pair (.int .i64) (.pair (.int .i64) (.pair (.int .i64) (.pair (.int .i64) (.pair (.int .i64) (.pair (.int .i64) (.pair (.int .i64) (.pair (.int .i64) (.pair (.int .i64) (.pair (.int .i64) (.pair (.int .i64) (.pair (.int .i64) (.pair (.int .i64) (.pair (.int .i64) (.pair (.int .i64) (.pair (.int .i64) (.pair (.int .i64) (.pair (.int .i64) (.pair (.int .i64) (.pair (.int .i64) (.pair (.int .i64) (.int .i64))))))))))))))))))))))))))))))))))))))))))))))))))))))))))))))))) (.pair (.int .i64) (.int .i64)))))))), ((0 : Int), (Sl.mk none 0 0), (Sl.mk none 0 0), (Sl.mk none 0 0), ((0 : Int), (0 : Int), (0 : Int), (0 : Int), (0 : Int), (0 : Int), (0 : Int), (0 : Int), (0 : Int), (0 : Int), (0 : Int), (0 : Int), (0 : Int), (0 : Int), (0 : Int), (0 : Int), (0 : Int), (0 : Int), (0 : Int), (0 : Int), (0 : Int), (0 : Int), (0 : Int), (0 : Int), (0 : Int), (0 : Int), (0 : Int), (0 : Int), (0 : Int), (0 : Int), (0 : Int), (0 : Int), (0 : Int), (0 : Int), (0 : Int), (0 : Int), (0 : Int), (0 : Int), (0 : Int), (0 : Int), (0 : Int), (0 : Int), (0 : Int), (0 : Int), (0 : Int), (0 : Int), (0 : Int), (0 : Int), (0 : Int), (0 : Int), (0 : Int), (0 : Int), (0 : Int), (0 : Int), (0 : Int), (0 : Int), (0 : Int), (0 : Int), (0 : Int), (0 : Int), (0 : Int), (0 : Int), (0 : Int), (0 : Int)), (0 : Int), (0 : Int))⟩),
  (49, ⟨(.agg (.pair .sl (.pair .sl (.pair .sl (.pair .sl (.pair .sl (.pair .sl (.pair .sl .sl)))))))), ((Sl.mk none 0 0), (Sl.mk none 0 0), (Sl.mk none 0 0), (Sl.mk none 0 0), (Sl.mk none 0 0), (Sl.mk none 0 0), (Sl.mk none 0 0), (Sl.mk none 0 0))⟩),
  (72, ⟨(.agg (.pair (.int .i64) (.pair (.int .u8) (.pair (.int .i64) (.int .i64))))), ((0 : Int), (0 : Int), (0 : Int), (0 : Int))⟩),
  (86, ⟨(.agg (.pair (.int .i64) (.pair (.int .i64) (.int .i64)))), ((0 : Int), (0 : Int), (0 : Int))⟩),
  (120, ⟨(.agg (.pair (.int .u8) (.pair (.int .i64) (.pair .str (.pair .str (.pair (.int .i64) (.int .i64))))))), ((0 : Int), (0 : Int), (ByteArray.mk #[]), (ByteArray.mk #[]), (0 : Int), (0 : Int))⟩),
  (124, ⟨(.agg (.pair .str .str)), ((ByteArray.mk #[]), (ByteArray.mk #[]))⟩),
  (128, ⟨(.agg (.pair (.int .u8) (.pair (.int .i64) .str))), ((0 : Int), (0 : Int), (ByteArray.mk #[]))⟩)]
theorem zerosOk : AllN (fun T (z : TV) => ∃ i, Tryz.prog.info? T = some i ∧ i.zero = some z.v) zeros :=
  ⟨⟨_, (by kernel_rfl : Tryz.prog.info? 32 = some Tryz.t32), rfl⟩,
   ⟨_, (by kernel_rfl : Tryz.prog.info? 49 = some Tryz.t49), rfl⟩,
   ⟨_, (by kernel_rfl : Tryz.prog.info? 72 = some Tryz.t72), rfl⟩,
   ⟨_, (by kernel_rfl : Tryz.prog.info? 86 = some Tryz.t86), rfl⟩,
   ⟨_, (by kernel_rfl : Tryz.prog.info? 120 = some Tryz.t120), rfl⟩,
   ⟨_, (by kernel_rfl : Tryz.prog.info? 124 = some Tryz.t124), rfl⟩,
   ⟨_, (by kernel_rfl : Tryz.prog.info? 128 = some Tryz.t128), rfl⟩, trivial⟩
noncomputable def eqs : List (Nat × Ty) := [(120, (.pair (.int .u8) (.pair (.int .i64) (.pair .str (.pair .str (.pair (.int .i64) (.int .i64))))))), (124, (.pair .str .str)), (128, (.pair (.int .u8) (.pair (.int .i64) .str)))]
theorem eqsOk : AllN (EqOk Tryz.prog) eqs := ⟨eqOk_of (by kernel_rfl), eqOk_of (by kernel_rfl), eqOk_of (by kernel_rfl), trivial⟩
theorem mixed : Tryz.prog.follows .mixedOrders = true := by kernel_rfl
/-- It is never called here. -/
noncomputable def f86_mark (x0 : Int) : M ByteArray := fail
theorem Sf86_mark : SoundF Tryz.prog 86 ⟨(.int .i64), .str, fun x => f86_mark x⟩ := ⟨⟨_, Tryz.func86, by kernel_rfl, by kernel_rfl⟩, fun _ _ _ _ h => by cases h⟩
noncomputable def Cf70_behind : Ctx := mkC Tryz.prog tys zeros eqs [] []
/-- (*palaverpalaverref26.Sched).behind -/
noncomputable def f70_behind (x0 : Option Addr) : M Int :=
  bnd (drf x0) fun (p1 : Addr) =>
  bnd (ld (.int .i64) (Addr.add p1 68)) fun (v2 : Int) =>
  bnd (drf x0) fun (p3 : Addr) =>
  bnd (wrs (Addr.add p3 68) 0 [.int .i64 (IntKind.wrap .i64 (v2 + (1 : Int)))]) fun _ =>
  bnd (drf x0) fun (p4 : Addr) =>
  bnd (ld (.int .i64) (Addr.add p4 68)) fun (v5 : Int) =>
  ret v5
noncomputable def Af70_behind : Ann := (.two .nil (.two .nil (.two .nil .nil)))
theorem Cf70_behind_ok : Cf70_behind.Ok := mkC_ok mixed tysOk zerosOk eqsOk trivial trivial
theorem Ef70_behind (x : Option Addr) : evF Cf70_behind Tryz.f70 14 .ptr (.int .i64) Af70_behind x = f70_behind x := by kernel_rfl
theorem Sf70_behind : SoundF Tryz.prog 70 ⟨.ptr, (.int .i64), fun x => f70_behind x⟩ :=
  soundF_of Cf70_behind_ok Tryz.func70 (by kernel_rfl) (by kernel_rfl) Ef70_behind
noncomputable def Cf92_one : Ctx := mkC Tryz.prog tys zeros eqs [] []
/-- (*palaverpalaverref26.Sched).one -/
noncomputable def f92_one (x0 : Option Addr) : M Int :=
  loopM (fun (s1 : (Int × Int)) =>
  bnd (drf x0) fun (p2 : Addr) =>
  bnd (ld .sl (Addr.add p2 1)) fun (v3 : Sl) =>
  cnd (decide (s1.2 < (v3.len : Int))) (
  bnd (
  bnd (drf x0) fun (p5 : Addr) =>
  bnd (ld .sl (Addr.add p5 1)) fun (v6 : Sl) =>
  bnd (ix 4 v6 s1.2) fun (p7 : Addr) =>
  bnd (ld (.agg (.pair (.int .i64) (.pair (.int .u8) (.pair (.int .i64) (.int .i64))))) p7) fun (v8 : (Int × (Int × (Int × Int)))) =>
  bnd (newC 72 [.int .i64 (0 : Int), .int .u8 (0 : Int), .int .i64 (0 : Int), .int .i64 (0 : Int)]) fun (p9 : Addr) =>
  bnd (wrs p9 0 [.int .i64 v8.1, .int .u8 v8.2.1, .int .i64 v8.2.2.1, .int .i64 v8.2.2.2]) fun _ =>
  bnd (ld (.int .u8) (Addr.add p9 1)) fun (v10 : Int) =>
  cnd (v10 != (1 : Int)) (
  ret s1.1) (
  bnd drawM fun _ =>
  bnd (
  cnd (decide (s1.1 < (0 : Int))) (
  ret true) (
  bnd (ld (.int .i64) (Addr.add p9 0)) fun (v11 : Int) =>
  bnd (drf x0) fun (p12 : Addr) =>
  bnd (ld .sl (Addr.add p12 1)) fun (v13 : Sl) =>
  bnd (ix 4 v13 s1.1) fun (p14 : Addr) =>
  bnd (ld (.int .i64) (Addr.add p14 0)) fun (v15 : Int) =>
  ret (decide (v11 > v15)))) fun (b16 : Bool) =>
  bnd (
  cnd b16 (
  ret true) (
  bnd (ld (.int .i64) (Addr.add p9 0)) fun (v17 : Int) =>
  bnd (drf x0) fun (p18 : Addr) =>
  bnd (ld .sl (Addr.add p18 1)) fun (v19 : Sl) =>
  bnd (ix 4 v19 s1.1) fun (p20 : Addr) =>
  bnd (ld (.int .i64) (Addr.add p20 0)) fun (v21 : Int) =>
  bnd (
  cnd (v17 == v21) (
  bnd (ld (.int .i64) (Addr.add p9 3)) fun (v22 : Int) =>
  bnd (drf x0) fun (p23 : Addr) =>
  bnd (ld .sl (Addr.add p23 1)) fun (v24 : Sl) =>
  bnd (ix 4 v24 s1.1) fun (p25 : Addr) =>
  bnd (ld (.int .i64) (Addr.add p25 3)) fun (v26 : Int) =>
  ret (decide (v22 < v26))) (
  ret false)) fun (b27 : Bool) =>
  ret b27)) fun (b28 : Bool) =>
  bnd (
  cnd b28 (
  ret s1.2) (
  ret s1.1)) fun (s29 : Int) =>
  ret s29)) fun (s4 : Int) =>
  ret (Sum.inl (s4, (IntKind.wrap .i64 (s1.2 + (1 : Int)))))) (
  ret (Sum.inr (IntKind.wrap .i64 (s1.1 + (1 : Int)))))) ((-1 : Int), (0 : Int))
noncomputable def Af92_one : Ann := (.two .nil (.two .nil (.two (.two .nil (.one (.loop [(3, (.int .i64)), (4, (.int .i64))] [5, 6, 7, 8, 9, 10, 11, 12, 13, 14, 15, 16, 17, 18, 19, 20, 21, 22, 23, 24, 25, 26, 27, 28, 29, 30, 31, 32, 33, 34, 35, 36, 37, 38, 39, 40, 41, 42, 43, 44, 45, 46, 47, 48, 49, 50, 51, 52, 53, 54, 55, 56, 57, 58, 59, 60, 61, 62, 63, 64, 65, 66] (.two (.two .nil (.two .nil .nil)) (.two (.join [(3, (.int .i64))] [5, 15, 16, 17, 18, 19, 20, 21, 22, 23, 24, 25, 26, 27, 28, 29, 30, 31, 32, 33, 34, 35, 36, 37, 38, 39, 40, 41, 42, 43, 44, 45, 46, 47, 48, 49, 50, 51, 52, 53, 54, 55, 56, 57, 58, 59, 60, 61, 62, 63, 64, 65, 66] false (.one (.two .nil (.two (.two .nil (.two .nil .nil)) (.two .nil (.join [(3, (.int .i64))] [66] false (.two .nil .nil))))))) .nil))))) (.two .nil .nil))))
theorem Cf92_one_ok : Cf92_one.Ok := mkC_ok mixed tysOk zerosOk eqsOk trivial trivial
theorem Ef92_one (x : Option Addr) : evF Cf92_one Tryz.f92 69 .ptr (.int .i64) Af92_one x = f92_one x := by kernel_rfl
theorem Sf92_one : SoundF Tryz.prog 92 ⟨.ptr, (.int .i64), fun x => f92_one x⟩ :=
  soundF_of Cf92_one_ok Tryz.func92 (by kernel_rfl) (by kernel_rfl) Ef92_one
noncomputable def Cf8_Active : Ctx := mkC Tryz.prog tys zeros eqs [] []
/-- (*palaverpalaverref26.Sched).Active -/
noncomputable def f8_Active (x0 : Option Addr) : M Int :=
  loopM (fun (s1 : Int) =>
  bnd (drf x0) fun (p2 : Addr) =>
  bnd (ld .sl (Addr.add p2 1)) fun (v3 : Sl) =>
  cnd (decide (s1 < (v3.len : Int))) (
  bnd (drf x0) fun (p4 : Addr) =>
  bnd (ld .sl (Addr.add p4 1)) fun (v5 : Sl) =>
  bnd (ix 4 v5 s1) fun (p6 : Addr) =>
  bnd (ld (.int .u8) (Addr.add p6 1)) fun (v7 : Int) =>
  cnd (v7 == (2 : Int)) (
  ret (Sum.inr (IntKind.wrap .i64 (s1 + (1 : Int))))) (
  ret (Sum.inl (IntKind.wrap .i64 (s1 + (1 : Int)))))) (
  ret (Sum.inr (0 : Int)))) (0 : Int)
noncomputable def Af8_Active : Ann := (.two .nil (.two (.two .nil (.one (.loop [(3, (.int .i64))] [2, 4, 5, 6, 7, 8, 9, 10, 11, 12, 13, 14, 15, 16, 17, 18, 19, 20, 21, 22, 23] (.two (.two .nil (.two .nil .nil)) (.two (.one (.two .nil (.two (.two .nil .nil) .nil))) .nil))))) (.two .nil .nil)))
theorem Cf8_Active_ok : Cf8_Active.Ok := mkC_ok mixed tysOk zerosOk eqsOk trivial trivial
theorem Ef8_Active (x : Option Addr) : evF Cf8_Active Tryz.f8 24 .ptr (.int .i64) Af8_Active x = f8_Active x := by kernel_rfl
theorem Sf8_Active : SoundF Tryz.prog 8 ⟨.ptr, (.int .i64), fun x => f8_Active x⟩ :=
  soundF_of Cf8_Active_ok Tryz.func8 (by kernel_rfl) (by kernel_rfl) Ef8_Active
noncomputable def Cf93_ahead : Ctx := mkC Tryz.prog tys zeros eqs [] []
/-- (*palaverpalaverref26.Sched).ahead -/
noncomputable def f93_ahead (x0 : Option Addr) : M Int :=
  bnd (drf x0) fun (p1 : Addr) =>
  bnd (ld (.int .i64) (Addr.add p1 69)) fun (v2 : Int) =>
  bnd (drf x0) fun (p3 : Addr) =>
  bnd (wrs (Addr.add p3 69) 0 [.int .i64 (IntKind.wrap .i64 (v2 - (1 : Int)))]) fun _ =>
  bnd (drf x0) fun (p4 : Addr) =>
  bnd (ld (.int .i64) (Addr.add p4 69)) fun (v5 : Int) =>
  ret v5
noncomputable def Af93_ahead : Ann := (.two .nil (.two .nil (.two .nil .nil)))
theorem Cf93_ahead_ok : Cf93_ahead.Ok := mkC_ok mixed tysOk zerosOk eqsOk trivial trivial
theorem Ef93_ahead (x : Option Addr) : evF Cf93_ahead Tryz.f93 14 .ptr (.int .i64) Af93_ahead x = f93_ahead x := by kernel_rfl
theorem Sf93_ahead : SoundF Tryz.prog 93 ⟨.ptr, (.int .i64), fun x => f93_ahead x⟩ :=
  soundF_of Cf93_ahead_ok Tryz.func93 (by kernel_rfl) (by kernel_rfl) Ef93_ahead
noncomputable def Cf71_runs : Ctx := mkC Tryz.prog tys zeros eqs [(8, ⟨.ptr, (.int .i64), fun x => f8_Active x⟩), (92, ⟨.ptr, (.int .i64), fun x => f92_one x⟩), (93, ⟨.ptr, (.int .i64), fun x => f93_ahead x⟩)] []
/-- (*palaverpalaverref26.Sched).runs -/
noncomputable def f71_runs (x0 : Option Addr) : M Unit :=
  bnd (f92_one x0) fun (r1 : Int) =>
  bnd (f8_Active x0) fun (r2 : Int) =>
  bnd drawM fun _ =>
  bnd (
  cnd (cond (decide (r2 > (0 : Int))) (decide (r1 > (0 : Int))) false) (
  bnd (drf x0) fun (p3 : Addr) =>
  bnd (ld .sl (Addr.add p3 1)) fun (v4 : Sl) =>
  bnd (ix 4 v4 (IntKind.wrap .i64 (r1 - (1 : Int)))) fun (p5 : Addr) =>
  bnd (ld (.int .i64) (Addr.add p5 0)) fun (v6 : Int) =>
  bnd (drf x0) fun (p7 : Addr) =>
  bnd (ld .sl (Addr.add p7 1)) fun (v8 : Sl) =>
  bnd (ix 4 v8 (IntKind.wrap .i64 (r2 - (1 : Int)))) fun (p9 : Addr) =>
  bnd (ld (.int .i64) (Addr.add p9 0)) fun (v10 : Int) =>
  ret (decide (v6 > v10))) (
  ret false)) fun (b11 : Bool) =>
  bnd (
  cnd b11 (
  bnd (drf x0) fun (p13 : Addr) =>
  bnd (ld .sl (Addr.add p13 1)) fun (v14 : Sl) =>
  bnd (ix 4 v14 (IntKind.wrap .i64 (r2 - (1 : Int)))) fun (p15 : Addr) =>
  bnd (wrs (Addr.add p15 1) 0 [.int .u8 (1 : Int)]) fun _ =>
  bnd (
  bnd (ordM 71 4 (regionIn 4 Tryz.f71)) fun (o17 : List Nat) =>
  bnd (drf x0) fun (p18 : Addr) =>
  bnd (ld .sl (Addr.add p18 1)) fun (v19 : Sl) =>
  bnd (f93_ahead x0) fun (r20 : Int) =>
  bnd (
  bnd (chk .sl (Addr.add p18 1) v19) fun _ =>
  ret ()) fun _ =>
  bnd (ix 4 v19 (IntKind.wrap .i64 (r2 - (1 : Int)))) fun (p21 : Addr) =>
  bnd (wrs (Addr.add p21 3) 0 [.int .i64 r20]) fun _ =>
  bnd (ret ()) fun _ =>
  ret ()) fun (s16 : Unit) =>
  ret (0 : Int)) (
  ret r2)) fun (s12 : Int) =>
  bnd (
  cnd (cond (s12 == (0 : Int)) (decide (r1 > (0 : Int))) false) (
  bnd (drf x0) fun (p23 : Addr) =>
  bnd (ld .sl (Addr.add p23 1)) fun (v24 : Sl) =>
  bnd (ix 4 v24 (IntKind.wrap .i64 (r1 - (1 : Int)))) fun (p25 : Addr) =>
  bnd (wrs (Addr.add p25 1) 0 [.int .u8 (2 : Int)]) fun _ =>
  ret ()) (
  ret ())) fun (s22 : Unit) =>
  ret ()
noncomputable def Af71_runs : Ann := (.two .nil (.two .nil (.two (.two .nil (.join [(3, (.int .i64))] [35, 36, 37, 38, 39, 40, 41, 42, 43, 44, 45, 46, 47, 48, 49, 50, 51, 52] false (.two (.two .nil (.two (.join [] [43, 44, 45, 46, 47, 48, 49, 50, 51, 52] false (.ord 71 [(0, 2046), (1, 2044), (2, 2041), (4, 2035), (0, 2031), (16, 1999), (0, 1983), (64, 1855), (255, 1751), (511, 1279), (767, 383)] (.o 0 (.o 1 (.o 2 (.o 3 (.o 4 (.o 5 (.o 6 (.o 7 (.o 8 (.o 9 (.o 10 .done))))))))))))) .nil)) .nil))) (.two .nil (.join [] [59, 60, 61, 62, 63, 64, 65, 66] false (.two .nil .nil))))))
theorem Cf71_runs_ok : Cf71_runs.Ok := mkC_ok mixed tysOk zerosOk eqsOk ⟨Sf8_Active, Sf92_one, Sf93_ahead, trivial⟩ trivial
theorem Ef71_runs (x : Option Addr) : evF Cf71_runs Tryz.f71 67 .ptr (.tup .unit) Af71_runs x = f71_runs x := by kernel_rfl
theorem Sf71_runs : SoundF Tryz.prog 71 ⟨.ptr, (.tup .unit), fun x => f71_runs x⟩ :=
  soundF_of Cf71_runs_ok Tryz.func71 (by kernel_rfl) (by kernel_rfl) Ef71_runs
noncomputable def Cf25_Fork : Ctx := mkC Tryz.prog tys zeros eqs [(70, ⟨.ptr, (.int .i64), fun x => f70_behind x⟩), (71, ⟨.ptr, (.tup .unit), fun x => f71_runs x⟩)] []
/-- (*palaverpalaverref26.Sched).Fork -/
noncomputable def f25_Fork (x0 : Option Addr) (x1 : Int) : M (Int × Int) :=
  cnd (cond (decide (x1 < (1 : Int))) true (decide (x1 > (16 : Int)))) (
  ret ((0 : Int), (1 : Int))) (
  bnd (drf x0) fun (p1 : Addr) =>
  bnd (ld .sl (Addr.add p1 1)) fun (v2 : Sl) =>
  cnd (decide ((v2.len : Int) ≥ (4096 : Int))) (
  ret ((0 : Int), (264 : Int))) (
  bnd (
  bnd (ordM 25 5 (regionIn 5 Tryz.f25)) fun (o4 : List Nat) =>
  bnd (drf x0) fun (p5 : Addr) =>
  bnd (ld .sl (Addr.add p5 1)) fun (v6 : Sl) =>
  bnd (f70_behind x0) fun (r7 : Int) =>
  bnd (
  bnd (chk .sl (Addr.add p5 1) v6) fun _ =>
  ret ()) fun _ =>
  bnd (runV Tryz.prog .sl (Instr.buildSlice 27 1 #[(0, .agg #[.int .i64 x1, .int .u8 (1 : Int), .int .i64 (0 : Int), .int .i64 r7])])) fun (v8 : Sl) =>
  bnd (
  bnd (chk .sl (Addr.add p5 1) v6) fun _ =>
  ret ()) fun _ =>
  bnd (runV Tryz.prog .sl (Builtin.append_ #[27, 27] 27 #[.slice v6.a v6.len v6.cap, .slice v8.a v8.len v8.cap])) fun (v9 : Sl) =>
  bnd (ret ()) fun _ =>
  bnd (drf x0) fun (p10 : Addr) =>
  bnd (wrs (Addr.add p10 1) 0 [.slice v9.a v9.len v9.cap]) fun _ =>
  bnd (ret ()) fun _ =>
  ret ()) fun (s3 : Unit) =>
  bnd (drf x0) fun (p11 : Addr) =>
  bnd (ld .sl (Addr.add p11 1)) fun (v12 : Sl) =>
  bnd (f71_runs x0) fun (r13 : Unit) =>
  ret ((v12.len : Int), (0 : Int))))
noncomputable def Af25_Fork : Ann := (.two .nil (.two (.two .nil (.two (.two .nil .nil) .nil)) (.two (.two .nil (.two (.two .nil .nil) .nil)) (.two (.join [] [19, 20, 21, 22, 23, 24, 25, 26, 27, 28, 29, 30, 31] false (.ord 25 [(0, 16382), (0, 16381), (2, 16377), (4, 16371), (8, 16359), (0, 16351), (0, 16319), (64, 16191), (160, 15967), (256, 15615), (656, 14831), (2047, 14334), (4095, 10239), (6143, 3071)] (.o 0 (.o 1 (.o 2 (.o 3 (.o 4 (.o 5 (.o 6 (.o 7 (.o 8 (.o 9 (.o 10 (.o 11 (.o 12 (.o 13 .done)))))))))))))))) (.two .nil (.two .nil (.two .nil .nil)))))))
theorem Cf25_Fork_ok : Cf25_Fork.Ok := mkC_ok mixed tysOk zerosOk eqsOk ⟨Sf70_behind, Sf71_runs, trivial⟩ trivial
theorem Ef25_Fork (x : (Option Addr × Int)) : evF Cf25_Fork Tryz.f25 40 (.pair .ptr (.int .i64)) (.tup (.pair (.int .i64) (.int .i64))) Af25_Fork x = f25_Fork x.1 x.2 := by kernel_rfl
theorem Sf25_Fork : SoundF Tryz.prog 25 ⟨(.pair .ptr (.int .i64)), (.tup (.pair (.int .i64) (.int .i64))), fun x => f25_Fork x.1 x.2⟩ :=
  soundF_of Cf25_Fork_ok Tryz.func25 (by kernel_rfl) (by kernel_rfl) Ef25_Fork
noncomputable def Cf26_Yield : Ctx := mkC Tryz.prog tys zeros eqs [(8, ⟨.ptr, (.int .i64), fun x => f8_Active x⟩), (70, ⟨.ptr, (.int .i64), fun x => f70_behind x⟩), (71, ⟨.ptr, (.tup .unit), fun x => f71_runs x⟩)] []
/-- (*palaverpalaverref26.Sched).Yield -/
noncomputable def f26_Yield (x0 : Option Addr) : M Int :=
  bnd (f8_Active x0) fun (r1 : Int) =>
  cnd (r1 == (0 : Int)) (
  ret (265 : Int)) (
  bnd (drf x0) fun (p2 : Addr) =>
  bnd (ld .sl (Addr.add p2 1)) fun (v3 : Sl) =>
  bnd (ix 4 v3 (IntKind.wrap .i64 (r1 - (1 : Int)))) fun (p4 : Addr) =>
  bnd (wrs (Addr.add p4 1) 0 [.int .u8 (1 : Int)]) fun _ =>
  bnd (
  bnd (ordM 26 5 (regionIn 5 Tryz.f26)) fun (o6 : List Nat) =>
  bnd (drf x0) fun (p7 : Addr) =>
  bnd (ld .sl (Addr.add p7 1)) fun (v8 : Sl) =>
  bnd (f70_behind x0) fun (r9 : Int) =>
  bnd (
  bnd (chk .sl (Addr.add p7 1) v8) fun _ =>
  ret ()) fun _ =>
  bnd (ix 4 v8 (IntKind.wrap .i64 (r1 - (1 : Int)))) fun (p10 : Addr) =>
  bnd (wrs (Addr.add p10 3) 0 [.int .i64 r9]) fun _ =>
  bnd (ret ()) fun _ =>
  ret ()) fun (s5 : Unit) =>
  bnd (f71_runs x0) fun (r11 : Unit) =>
  ret (0 : Int))
noncomputable def Af26_Yield : Ann := (.two .nil (.two .nil (.two (.two .nil (.two (.two .nil .nil) .nil)) (.two .nil (.two (.join [] [16, 17, 18, 19, 20, 21, 22, 23, 24, 25] false (.ord 26 [(0, 2046), (1, 2044), (2, 2041), (4, 2035), (0, 2031), (16, 1999), (0, 1983), (64, 1855), (255, 1751), (511, 1279), (767, 383)] (.o 0 (.o 1 (.o 2 (.o 3 (.o 4 (.o 5 (.o 6 (.o 7 (.o 8 (.o 9 (.o 10 .done))))))))))))) (.two .nil (.two .nil .nil)))))))
theorem Cf26_Yield_ok : Cf26_Yield.Ok := mkC_ok mixed tysOk zerosOk eqsOk ⟨Sf8_Active, Sf70_behind, Sf71_runs, trivial⟩ trivial
theorem Ef26_Yield (x : Option Addr) : evF Cf26_Yield Tryz.f26 28 .ptr (.int .i64) Af26_Yield x = f26_Yield x := by kernel_rfl
theorem Sf26_Yield : SoundF Tryz.prog 26 ⟨.ptr, (.int .i64), fun x => f26_Yield x⟩ :=
  soundF_of Cf26_Yield_ok Tryz.func26 (by kernel_rfl) (by kernel_rfl) Ef26_Yield
noncomputable def Cf27_Semaphore : Ctx := mkC Tryz.prog tys zeros eqs [] []
/-- (*palaverpalaverref26.Sched).Semaphore -/
noncomputable def f27_Semaphore (x0 : Option Addr) : M (Int × Int) :=
  bnd (drf x0) fun (p1 : Addr) =>
  bnd (ld .sl (Addr.add p1 2)) fun (v2 : Sl) =>
  cnd (decide ((v2.len : Int) ≥ (4096 : Int))) (
  ret ((0 : Int), (264 : Int))) (
  bnd (drf x0) fun (p3 : Addr) =>
  bnd (ld .sl (Addr.add p3 2)) fun (v4 : Sl) =>
  bnd (runV Tryz.prog .sl (Instr.buildSlice 28 1 #[(0, .int .i64 (0 : Int))])) fun (v5 : Sl) =>
  bnd (runV Tryz.prog .sl (Builtin.append_ #[28, 28] 28 #[.slice v4.a v4.len v4.cap, .slice v5.a v5.len v5.cap])) fun (v6 : Sl) =>
  bnd (drf x0) fun (p7 : Addr) =>
  bnd (wrs (Addr.add p7 2) 0 [.slice v6.a v6.len v6.cap]) fun _ =>
  bnd (drf x0) fun (p8 : Addr) =>
  bnd (ld .sl (Addr.add p8 2)) fun (v9 : Sl) =>
  ret ((v9.len : Int), (0 : Int)))
noncomputable def Af27_Semaphore : Ann := (.two .nil (.two (.two .nil (.two (.two .nil .nil) .nil)) (.two .nil (.two .nil .nil))))
theorem Cf27_Semaphore_ok : Cf27_Semaphore.Ok := mkC_ok mixed tysOk zerosOk eqsOk trivial trivial
theorem Ef27_Semaphore (x : Option Addr) : evF Cf27_Semaphore Tryz.f27 24 .ptr (.tup (.pair (.int .i64) (.int .i64))) Af27_Semaphore x = f27_Semaphore x := by kernel_rfl
theorem Sf27_Semaphore : SoundF Tryz.prog 27 ⟨.ptr, (.tup (.pair (.int .i64) (.int .i64))), fun x => f27_Semaphore x⟩ :=
  soundF_of Cf27_Semaphore_ok Tryz.func27 (by kernel_rfl) (by kernel_rfl) Ef27_Semaphore
noncomputable def Cf72_is : Ctx := mkC Tryz.prog tys zeros eqs [] []
/-- (*palaverpalaverref26.Sched).is -/
noncomputable def f72_is (x0 : Option Addr) (x1 : Int) : M Bool :=
  bnd (
  cnd (decide (x1 ≥ (1 : Int))) (
  bnd (drf x0) fun (p1 : Addr) =>
  bnd (ld .sl (Addr.add p1 2)) fun (v2 : Sl) =>
  ret (decide (x1 ≤ (v2.len : Int)))) (
  ret false)) fun (b3 : Bool) =>
  ret b3
noncomputable def Af72_is : Ann := (.two .nil (.two .nil .nil))
theorem Cf72_is_ok : Cf72_is.Ok := mkC_ok mixed tysOk zerosOk eqsOk trivial trivial
theorem Ef72_is (x : (Option Addr × Int)) : evF Cf72_is Tryz.f72 16 (.pair .ptr (.int .i64)) .bool Af72_is x = f72_is x.1 x.2 := by kernel_rfl
theorem Sf72_is : SoundF Tryz.prog 72 ⟨(.pair .ptr (.int .i64)), .bool, fun x => f72_is x.1 x.2⟩ :=
  soundF_of Cf72_is_ok Tryz.func72 (by kernel_rfl) (by kernel_rfl) Ef72_is
noncomputable def Cf28_Wait : Ctx := mkC Tryz.prog tys zeros eqs [(8, ⟨.ptr, (.int .i64), fun x => f8_Active x⟩), (70, ⟨.ptr, (.int .i64), fun x => f70_behind x⟩), (71, ⟨.ptr, (.tup .unit), fun x => f71_runs x⟩), (72, ⟨(.pair .ptr (.int .i64)), .bool, fun x => f72_is x.1 x.2⟩)] []
/-- (*palaverpalaverref26.Sched).Wait -/
noncomputable def f28_Wait (x0 : Option Addr) (x1 : Int) : M Int :=
  bnd (f8_Active x0) fun (r1 : Int) =>
  bnd (f72_is x0 x1) fun (r2 : Bool) =>
  cnd (r1 == (0 : Int)) (
  ret (265 : Int)) (
  cnd (!r2) (
  ret (261 : Int)) (
  bnd (drf x0) fun (p3 : Addr) =>
  bnd (ld .sl (Addr.add p3 2)) fun (v4 : Sl) =>
  bnd (ix 1 v4 (IntKind.wrap .i64 (x1 - (1 : Int)))) fun (p5 : Addr) =>
  bnd (ld (.int .i64) p5) fun (v6 : Int) =>
  cnd (decide (v6 > (0 : Int))) (
  bnd (drf x0) fun (p7 : Addr) =>
  bnd (ld .sl (Addr.add p7 2)) fun (v8 : Sl) =>
  bnd (ix 1 v8 (IntKind.wrap .i64 (x1 - (1 : Int)))) fun (p9 : Addr) =>
  bnd (ld (.int .i64) p9) fun (v10 : Int) =>
  bnd (ix 1 v8 (IntKind.wrap .i64 (x1 - (1 : Int)))) fun (p11 : Addr) =>
  bnd (wrs p11 0 [.int .i64 (IntKind.wrap .i64 (v10 - (1 : Int)))]) fun _ =>
  ret (0 : Int)) (
  bnd (drf x0) fun (p12 : Addr) =>
  bnd (ld .sl (Addr.add p12 1)) fun (v13 : Sl) =>
  bnd (ix 4 v13 (IntKind.wrap .i64 (r1 - (1 : Int)))) fun (p14 : Addr) =>
  bnd (wrs (Addr.add p14 1) 0 [.int .u8 (3 : Int)]) fun _ =>
  bnd (wrs (Addr.add p14 2) 0 [.int .i64 x1]) fun _ =>
  bnd (f70_behind x0) fun (r15 : Int) =>
  bnd (wrs (Addr.add p14 3) 0 [.int .i64 r15]) fun _ =>
  bnd (f71_runs x0) fun (r16 : Unit) =>
  ret (0 : Int))))
noncomputable def Af28_Wait : Ann := (.two .nil (.two .nil (.two .nil (.two (.one (.two .nil (.two (.two .nil .nil) (.two .nil (.two (.two .nil .nil) (.two .nil (.two (.two .nil (.two .nil .nil)) .nil))))))) (.two .nil (.two .nil (.two .nil (.two .nil (.two .nil (.two .nil .nil))))))))))
theorem Cf28_Wait_ok : Cf28_Wait.Ok := mkC_ok mixed tysOk zerosOk eqsOk ⟨Sf8_Active, Sf70_behind, Sf71_runs, Sf72_is, trivial⟩ trivial
theorem Ef28_Wait (x : (Option Addr × Int)) : evF Cf28_Wait Tryz.f28 60 (.pair .ptr (.int .i64)) (.int .i64) Af28_Wait x = f28_Wait x.1 x.2 := by kernel_rfl
theorem Sf28_Wait : SoundF Tryz.prog 28 ⟨(.pair .ptr (.int .i64)), (.int .i64), fun x => f28_Wait x.1 x.2⟩ :=
  soundF_of Cf28_Wait_ok Tryz.func28 (by kernel_rfl) (by kernel_rfl) Ef28_Wait
noncomputable def Cf85_order : Ctx := mkC Tryz.prog tys zeros eqs [] []
/-- (*palaverpalaverref26.Sched).order -/
noncomputable def f85_order (x0 : Option Addr) (x1 : Int) (x2 : Int) (x3 : Int) : M Sl :=
  loopM (fun (s1 : Sl) =>
  loopM (fun (s2 : (Int × Int)) =>
  bnd (drf x0) fun (p3 : Addr) =>
  bnd (ld .sl (Addr.add p3 1)) fun (v4 : Sl) =>
  cnd (decide (s2.2 < (v4.len : Int))) (
  bnd (drf x0) fun (p5 : Addr) =>
  bnd (ld .sl (Addr.add p5 1)) fun (v6 : Sl) =>
  bnd (ix 4 v6 s2.2) fun (p7 : Addr) =>
  bnd (ld (.agg (.pair (.int .i64) (.pair (.int .u8) (.pair (.int .i64) (.int .i64))))) p7) fun (v8 : (Int × (Int × (Int × Int)))) =>
  bnd (newC 72 [.int .i64 (0 : Int), .int .u8 (0 : Int), .int .i64 (0 : Int), .int .i64 (0 : Int)]) fun (p9 : Addr) =>
  bnd (wrs p9 0 [.int .i64 v8.1, .int .u8 v8.2.1, .int .i64 v8.2.2.1, .int .i64 v8.2.2.2]) fun _ =>
  bnd drawM fun _ =>
  bnd (
  cnd ((s1.len : Int) == (0 : Int)) (
  ret true) (
  bnd (ld (.int .i64) (Addr.add p9 3)) fun (v10 : Int) =>
  bnd (drf x0) fun (p11 : Addr) =>
  bnd (ld .sl (Addr.add p11 1)) fun (v12 : Sl) =>
  bnd (ix 1 s1 (IntKind.wrap .i64 ((s1.len : Int) - (1 : Int)))) fun (p13 : Addr) =>
  bnd (ld (.int .i64) p13) fun (v14 : Int) =>
  bnd (ix 4 v12 (IntKind.wrap .i64 (v14 - (1 : Int)))) fun (p15 : Addr) =>
  bnd (ld (.int .i64) (Addr.add p15 3)) fun (v16 : Int) =>
  ret (decide (v10 > v16)))) fun (b17 : Bool) =>
  bnd (ld (.int .u8) (Addr.add p9 1)) fun (v18 : Int) =>
  bnd (
  cnd (v18 == x1) (
  bnd (
  cnd (x2 == (0 : Int)) (
  ret true) (
  bnd (ld (.int .i64) (Addr.add p9 0)) fun (v19 : Int) =>
  ret (v19 == x2))) fun (b20 : Bool) =>
  ret b20) (
  ret false)) fun (b21 : Bool) =>
  bnd (
  cnd b21 (
  bnd (ld (.int .i64) (Addr.add p9 2)) fun (v22 : Int) =>
  ret (v22 == x3)) (
  ret false)) fun (b23 : Bool) =>
  bnd drawM fun _ =>
  bnd (
  cnd (cond b23 b17 false) (
  bnd (
  cnd (decide (s2.1 < (0 : Int))) (
  ret true) (
  bnd (ld (.int .i64) (Addr.add p9 3)) fun (v24 : Int) =>
  bnd (drf x0) fun (p25 : Addr) =>
  bnd (ld .sl (Addr.add p25 1)) fun (v26 : Sl) =>
  bnd (ix 4 v26 s2.1) fun (p27 : Addr) =>
  bnd (ld (.int .i64) (Addr.add p27 3)) fun (v28 : Int) =>
  ret (decide (v24 < v28)))) fun (b29 : Bool) =>
  ret b29) (
  ret false)) fun (b30 : Bool) =>
  bnd (
  cnd b30 (
  ret s2.2) (
  ret s2.1)) fun (s31 : Int) =>
  ret (Sum.inl (s31, (IntKind.wrap .i64 (s2.2 + (1 : Int)))))) (
  bnd (
  cnd (decide (s2.1 < (0 : Int))) (
  ret (Sum.inr s1)) (
  bnd (runV Tryz.prog .sl (Instr.buildSlice 28 1 #[(0, .int .i64 (IntKind.wrap .i64 (s2.1 + (1 : Int))))])) fun (v32 : Sl) =>
  bnd (runV Tryz.prog .sl (Builtin.append_ #[28, 28] 28 #[.slice s1.a s1.len s1.cap, .slice v32.a v32.len v32.cap])) fun (v33 : Sl) =>
  ret (Sum.inl v33))) fun r34 =>
  ret (Sum.inr r34))) ((-1 : Int), (0 : Int))) (Sl.mk none 0 0)
noncomputable def Af85_order : Ann := (.two .nil (.two .nil (.one (.loop [(9, .sl)] [8, 10, 11, 12, 13, 14, 15, 16, 17, 18, 19, 20, 21, 22, 23, 24, 25, 26, 27, 28, 29, 30, 31, 32, 33, 34, 35, 36, 37, 38, 39, 40, 41, 42, 43, 44, 45, 46, 47, 48, 49, 50, 51, 52, 53, 54, 55, 56, 57, 58, 59, 60, 61, 62, 63, 64, 65, 66, 67, 68, 69, 70, 71, 72, 73, 74, 75, 76, 77, 78, 79, 80, 81, 82, 83, 84, 85, 86, 87, 88, 89, 90, 91, 92, 93, 94, 95, 96, 97, 98, 99, 100, 101, 102] (.one (.two .nil (.two (.two .nil (.one (.loop [(10, (.int .i64)), (11, (.int .i64))] [12, 13, 14, 15, 16, 17, 18, 19, 20, 21, 22, 23, 24, 25, 26, 27, 28, 29, 30, 31, 32, 33, 34, 35, 36, 37, 38, 39, 40, 41, 42, 43, 44, 45, 46, 47, 48, 49, 50, 51, 52, 53, 54, 55, 56, 57, 58, 59, 60, 61, 62, 63, 64, 65, 66, 67, 68, 69, 70, 71, 72, 73, 74, 75, 76, 77, 78, 79, 80, 81, 82, 83, 84, 85, 86, 87, 88, 89, 90, 91, 92, 93, 94] (.two (.two .nil (.two .nil .nil)) (.two (.one (.two .nil (.two .nil (.two .nil (.two .nil (.join [(10, (.int .i64))] [94] false (.two .nil .nil))))))) .nil))))) (.two (.two .nil (.two (.two .nil .nil) .nil)) .nil))))))))
theorem Cf85_order_ok : Cf85_order.Ok := mkC_ok mixed tysOk zerosOk eqsOk trivial trivial
theorem Ef85_order (x : (Option Addr × (Int × (Int × Int)))) : evF Cf85_order Tryz.f85 103 (.pair .ptr (.pair (.int .u8) (.pair (.int .i64) (.int .i64)))) .sl Af85_order x = f85_order x.1 x.2.1 x.2.2.1 x.2.2.2 := by kernel_rfl
theorem Sf85_order : SoundF Tryz.prog 85 ⟨(.pair .ptr (.pair (.int .u8) (.pair (.int .i64) (.int .i64)))), .sl, fun x => f85_order x.1 x.2.1 x.2.2.1 x.2.2.2⟩ :=
  soundF_of Cf85_order_ok Tryz.func85 (by kernel_rfl) (by kernel_rfl) Ef85_order
noncomputable def Cf49_Waits : Ctx := mkC Tryz.prog tys zeros eqs [(85, ⟨(.pair .ptr (.pair (.int .u8) (.pair (.int .i64) (.int .i64)))), .sl, fun x => f85_order x.1 x.2.1 x.2.2.1 x.2.2.2⟩)] []
/-- (*palaverpalaverref26.Sched).Waits -/
noncomputable def f49_Waits (x0 : Option Addr) (x1 : Int) : M Sl :=
  bnd (f85_order x0 (3 : Int) (0 : Int) x1) fun (r1 : Sl) =>
  ret r1
noncomputable def Af49_Waits : Ann := (.two .nil (.two .nil .nil))
theorem Cf49_Waits_ok : Cf49_Waits.Ok := mkC_ok mixed tysOk zerosOk eqsOk ⟨Sf85_order, trivial⟩ trivial
theorem Ef49_Waits (x : (Option Addr × Int)) : evF Cf49_Waits Tryz.f49 8 (.pair .ptr (.int .i64)) .sl Af49_Waits x = f49_Waits x.1 x.2 := by kernel_rfl
theorem Sf49_Waits : SoundF Tryz.prog 49 ⟨(.pair .ptr (.int .i64)), .sl, fun x => f49_Waits x.1 x.2⟩ :=
  soundF_of Cf49_Waits_ok Tryz.func49 (by kernel_rfl) (by kernel_rfl) Ef49_Waits
noncomputable def Cf75_ready : Ctx := mkC Tryz.prog tys zeros eqs [(70, ⟨.ptr, (.int .i64), fun x => f70_behind x⟩)] []
/-- (*palaverpalaverref26.Sched).ready -/
noncomputable def f75_ready (x0 : Option Addr) (x1 : Int) : M Unit :=
  bnd (drf x0) fun (p1 : Addr) =>
  bnd (ld .sl (Addr.add p1 1)) fun (v2 : Sl) =>
  bnd (ix 4 v2 (IntKind.wrap .i64 (x1 - (1 : Int)))) fun (p3 : Addr) =>
  bnd (wrs (Addr.add p3 1) 0 [.int .u8 (1 : Int)]) fun _ =>
  bnd (wrs (Addr.add p3 2) 0 [.int .i64 (0 : Int)]) fun _ =>
  bnd (f70_behind x0) fun (r4 : Int) =>
  bnd (wrs (Addr.add p3 3) 0 [.int .i64 r4]) fun _ =>
  ret ()
noncomputable def Af75_ready : Ann := (.two .nil (.two .nil (.two .nil .nil)))
theorem Cf75_ready_ok : Cf75_ready.Ok := mkC_ok mixed tysOk zerosOk eqsOk ⟨Sf70_behind, trivial⟩ trivial
theorem Ef75_ready (x : (Option Addr × Int)) : evF Cf75_ready Tryz.f75 23 (.pair .ptr (.int .i64)) (.tup .unit) Af75_ready x = f75_ready x.1 x.2 := by kernel_rfl
theorem Sf75_ready : SoundF Tryz.prog 75 ⟨(.pair .ptr (.int .i64)), (.tup .unit), fun x => f75_ready x.1 x.2⟩ :=
  soundF_of Cf75_ready_ok Tryz.func75 (by kernel_rfl) (by kernel_rfl) Ef75_ready
noncomputable def Cf73_signal : Ctx := mkC Tryz.prog tys zeros eqs [(49, ⟨(.pair .ptr (.int .i64)), .sl, fun x => f49_Waits x.1 x.2⟩), (72, ⟨(.pair .ptr (.int .i64)), .bool, fun x => f72_is x.1 x.2⟩), (75, ⟨(.pair .ptr (.int .i64)), (.tup .unit), fun x => f75_ready x.1 x.2⟩)] []
/-- (*palaverpalaverref26.Sched).signal -/
noncomputable def f73_signal (x0 : Option Addr) (x1 : Int) : M Int :=
  bnd (f72_is x0 x1) fun (r1 : Bool) =>
  cnd (!r1) (
  ret (261 : Int)) (
  bnd (f49_Waits x0 x1) fun (r2 : Sl) =>
  cnd ((r2.len : Int) == (0 : Int)) (
  bnd (drf x0) fun (p3 : Addr) =>
  bnd (ld .sl (Addr.add p3 2)) fun (v4 : Sl) =>
  bnd (ix 1 v4 (IntKind.wrap .i64 (x1 - (1 : Int)))) fun (p5 : Addr) =>
  bnd (ld (.int .i64) p5) fun (v6 : Int) =>
  cnd (decide (v6 ≥ (1073741824 : Int))) (
  ret (264 : Int)) (
  bnd (drf x0) fun (p7 : Addr) =>
  bnd (ld .sl (Addr.add p7 2)) fun (v8 : Sl) =>
  bnd (ix 1 v8 (IntKind.wrap .i64 (x1 - (1 : Int)))) fun (p9 : Addr) =>
  bnd (ld (.int .i64) p9) fun (v10 : Int) =>
  bnd (ix 1 v8 (IntKind.wrap .i64 (x1 - (1 : Int)))) fun (p11 : Addr) =>
  bnd (wrs p11 0 [.int .i64 (IntKind.wrap .i64 (v10 + (1 : Int)))]) fun _ =>
  ret (0 : Int))) (
  bnd (ix 1 r2 (0 : Int)) fun (p12 : Addr) =>
  bnd (ld (.int .i64) p12) fun (v13 : Int) =>
  bnd (f75_ready x0 v13) fun (r14 : Unit) =>
  ret (0 : Int)))
noncomputable def Af73_signal : Ann := (.two .nil (.two .nil (.two (.two .nil (.two (.two .nil .nil) .nil)) (.two .nil (.two (.two .nil (.two (.two (.two .nil (.two (.two .nil .nil) .nil)) (.two .nil (.two .nil .nil))) .nil)) (.two .nil (.two .nil .nil)))))))
theorem Cf73_signal_ok : Cf73_signal.Ok := mkC_ok mixed tysOk zerosOk eqsOk ⟨Sf49_Waits, Sf72_is, Sf75_ready, trivial⟩ trivial
theorem Ef73_signal (x : (Option Addr × Int)) : evF Cf73_signal Tryz.f73 42 (.pair .ptr (.int .i64)) (.int .i64) Af73_signal x = f73_signal x.1 x.2 := by kernel_rfl
theorem Sf73_signal : SoundF Tryz.prog 73 ⟨(.pair .ptr (.int .i64)), (.int .i64), fun x => f73_signal x.1 x.2⟩ :=
  soundF_of Cf73_signal_ok Tryz.func73 (by kernel_rfl) (by kernel_rfl) Ef73_signal
noncomputable def Cf29_Signal : Ctx := mkC Tryz.prog tys zeros eqs [(71, ⟨.ptr, (.tup .unit), fun x => f71_runs x⟩), (73, ⟨(.pair .ptr (.int .i64)), (.int .i64), fun x => f73_signal x.1 x.2⟩)] []
/-- (*palaverpalaverref26.Sched).Signal -/
noncomputable def f29_Signal (x0 : Option Addr) (x1 : Int) : M Int :=
  bnd (f73_signal x0 x1) fun (r1 : Int) =>
  bnd (f71_runs x0) fun (r2 : Unit) =>
  ret r1
noncomputable def Af29_Signal : Ann := (.two .nil (.two .nil (.two .nil (.two .nil .nil))))
theorem Cf29_Signal_ok : Cf29_Signal.Ok := mkC_ok mixed tysOk zerosOk eqsOk ⟨Sf71_runs, Sf73_signal, trivial⟩ trivial
theorem Ef29_Signal (x : (Option Addr × Int)) : evF Cf29_Signal Tryz.f29 12 (.pair .ptr (.int .i64)) (.int .i64) Af29_Signal x = f29_Signal x.1 x.2 := by kernel_rfl
theorem Sf29_Signal : SoundF Tryz.prog 29 ⟨(.pair .ptr (.int .i64)), (.int .i64), fun x => f29_Signal x.1 x.2⟩ :=
  soundF_of Cf29_Signal_ok Tryz.func29 (by kernel_rfl) (by kernel_rfl) Ef29_Signal
noncomputable def Cf74_alive : Ctx := mkC Tryz.prog tys zeros eqs [] []
/-- (*palaverpalaverref26.Sched).alive -/
noncomputable def f74_alive (x0 : Option Addr) (x1 : Int) : M Int :=
  bnd (
  cnd (decide (x1 < (1 : Int))) (
  ret true) (
  bnd (drf x0) fun (p1 : Addr) =>
  bnd (ld .sl (Addr.add p1 1)) fun (v2 : Sl) =>
  ret (decide (x1 > (v2.len : Int))))) fun (b3 : Bool) =>
  cnd b3 (
  ret (260 : Int)) (
  bnd (drf x0) fun (p4 : Addr) =>
  bnd (ld .sl (Addr.add p4 1)) fun (v5 : Sl) =>
  bnd (ix 4 v5 (IntKind.wrap .i64 (x1 - (1 : Int)))) fun (p6 : Addr) =>
  bnd (ld (.int .u8) (Addr.add p6 1)) fun (v7 : Int) =>
  cnd (v7 == (5 : Int)) (
  ret (263 : Int)) (
  ret (0 : Int)))
noncomputable def Af74_alive : Ann := (.two .nil (.two (.two .nil (.two (.two .nil .nil) .nil)) (.two (.two .nil (.two (.two .nil .nil) .nil)) (.two .nil .nil))))
theorem Cf74_alive_ok : Cf74_alive.Ok := mkC_ok mixed tysOk zerosOk eqsOk trivial trivial
theorem Ef74_alive (x : (Option Addr × Int)) : evF Cf74_alive Tryz.f74 26 (.pair .ptr (.int .i64)) (.int .i64) Af74_alive x = f74_alive x.1 x.2 := by kernel_rfl
theorem Sf74_alive : SoundF Tryz.prog 74 ⟨(.pair .ptr (.int .i64)), (.int .i64), fun x => f74_alive x.1 x.2⟩ :=
  soundF_of Cf74_alive_ok Tryz.func74 (by kernel_rfl) (by kernel_rfl) Ef74_alive
noncomputable def Cf31_Suspend : Ctx := mkC Tryz.prog tys zeros eqs [(71, ⟨.ptr, (.tup .unit), fun x => f71_runs x⟩), (74, ⟨(.pair .ptr (.int .i64)), (.int .i64), fun x => f74_alive x.1 x.2⟩)] []
/-- (*palaverpalaverref26.Sched).Suspend -/
noncomputable def f31_Suspend (x0 : Option Addr) (x1 : Int) : M Int :=
  bnd (f74_alive x0 x1) fun (r1 : Int) =>
  cnd (r1 != (0 : Int)) (
  ret r1) (
  bnd (drf x0) fun (p2 : Addr) =>
  bnd (ld .sl (Addr.add p2 1)) fun (v3 : Sl) =>
  bnd (ix 4 v3 (IntKind.wrap .i64 (x1 - (1 : Int)))) fun (p4 : Addr) =>
  bnd (ld (.int .u8) (Addr.add p4 1)) fun (v5 : Int) =>
  cnd (v5 == (4 : Int)) (
  ret (262 : Int)) (
  bnd (drf x0) fun (p6 : Addr) =>
  bnd (ld .sl (Addr.add p6 1)) fun (v7 : Sl) =>
  bnd (ix 4 v7 (IntKind.wrap .i64 (x1 - (1 : Int)))) fun (p8 : Addr) =>
  bnd (wrs (Addr.add p8 1) 0 [.int .u8 (4 : Int)]) fun _ =>
  bnd (drf x0) fun (p9 : Addr) =>
  bnd (ld .sl (Addr.add p9 1)) fun (v10 : Sl) =>
  bnd (ix 4 v10 (IntKind.wrap .i64 (x1 - (1 : Int)))) fun (p11 : Addr) =>
  bnd (wrs (Addr.add p11 2) 0 [.int .i64 (0 : Int)]) fun _ =>
  bnd (f71_runs x0) fun (r12 : Unit) =>
  ret (0 : Int)))
noncomputable def Af31_Suspend : Ann := (.two .nil (.two .nil (.two (.two .nil (.two (.two .nil .nil) .nil)) (.two (.two .nil (.two (.two .nil .nil) .nil)) (.two .nil (.two .nil (.two .nil (.two .nil .nil))))))))
theorem Cf31_Suspend_ok : Cf31_Suspend.Ok := mkC_ok mixed tysOk zerosOk eqsOk ⟨Sf71_runs, Sf74_alive, trivial⟩ trivial
theorem Ef31_Suspend (x : (Option Addr × Int)) : evF Cf31_Suspend Tryz.f31 40 (.pair .ptr (.int .i64)) (.int .i64) Af31_Suspend x = f31_Suspend x.1 x.2 := by kernel_rfl
theorem Sf31_Suspend : SoundF Tryz.prog 31 ⟨(.pair .ptr (.int .i64)), (.int .i64), fun x => f31_Suspend x.1 x.2⟩ :=
  soundF_of Cf31_Suspend_ok Tryz.func31 (by kernel_rfl) (by kernel_rfl) Ef31_Suspend
noncomputable def Cf32_Resume : Ctx := mkC Tryz.prog tys zeros eqs [(71, ⟨.ptr, (.tup .unit), fun x => f71_runs x⟩), (74, ⟨(.pair .ptr (.int .i64)), (.int .i64), fun x => f74_alive x.1 x.2⟩), (75, ⟨(.pair .ptr (.int .i64)), (.tup .unit), fun x => f75_ready x.1 x.2⟩)] []
/-- (*palaverpalaverref26.Sched).Resume -/
noncomputable def f32_Resume (x0 : Option Addr) (x1 : Int) : M Int :=
  bnd (f74_alive x0 x1) fun (r1 : Int) =>
  cnd (r1 != (0 : Int)) (
  ret r1) (
  bnd (drf x0) fun (p2 : Addr) =>
  bnd (ld .sl (Addr.add p2 1)) fun (v3 : Sl) =>
  bnd (ix 4 v3 (IntKind.wrap .i64 (x1 - (1 : Int)))) fun (p4 : Addr) =>
  bnd (ld (.int .u8) (Addr.add p4 1)) fun (v5 : Int) =>
  cnd (v5 != (4 : Int)) (
  ret (262 : Int)) (
  bnd (f75_ready x0 x1) fun (r6 : Unit) =>
  bnd (f71_runs x0) fun (r7 : Unit) =>
  ret (0 : Int)))
noncomputable def Af32_Resume : Ann := (.two .nil (.two .nil (.two (.two .nil (.two (.two .nil .nil) .nil)) (.two (.two .nil (.two (.two .nil .nil) .nil)) (.two .nil (.two .nil (.two .nil .nil)))))))
theorem Cf32_Resume_ok : Cf32_Resume.Ok := mkC_ok mixed tysOk zerosOk eqsOk ⟨Sf71_runs, Sf74_alive, Sf75_ready, trivial⟩ trivial
theorem Ef32_Resume (x : (Option Addr × Int)) : evF Cf32_Resume Tryz.f32 27 (.pair .ptr (.int .i64)) (.int .i64) Af32_Resume x = f32_Resume x.1 x.2 := by kernel_rfl
theorem Sf32_Resume : SoundF Tryz.prog 32 ⟨(.pair .ptr (.int .i64)), (.int .i64), fun x => f32_Resume x.1 x.2⟩ :=
  soundF_of Cf32_Resume_ok Tryz.func32 (by kernel_rfl) (by kernel_rfl) Ef32_Resume
noncomputable def Cf33_Terminate : Ctx := mkC Tryz.prog tys zeros eqs [(71, ⟨.ptr, (.tup .unit), fun x => f71_runs x⟩), (74, ⟨(.pair .ptr (.int .i64)), (.int .i64), fun x => f74_alive x.1 x.2⟩)] []
/-- (*palaverpalaverref26.Sched).Terminate -/
noncomputable def f33_Terminate (x0 : Option Addr) (x1 : Int) : M Int :=
  bnd (f74_alive x0 x1) fun (r1 : Int) =>
  cnd (r1 != (0 : Int)) (
  ret r1) (
  bnd (drf x0) fun (p2 : Addr) =>
  bnd (ld .sl (Addr.add p2 1)) fun (v3 : Sl) =>
  bnd (ix 4 v3 (IntKind.wrap .i64 (x1 - (1 : Int)))) fun (p4 : Addr) =>
  bnd (wrs (Addr.add p4 1) 0 [.int .u8 (5 : Int)]) fun _ =>
  bnd (drf x0) fun (p5 : Addr) =>
  bnd (ld .sl (Addr.add p5 1)) fun (v6 : Sl) =>
  bnd (ix 4 v6 (IntKind.wrap .i64 (x1 - (1 : Int)))) fun (p7 : Addr) =>
  bnd (wrs (Addr.add p7 2) 0 [.int .i64 (0 : Int)]) fun _ =>
  bnd (f71_runs x0) fun (r8 : Unit) =>
  ret (0 : Int))
noncomputable def Af33_Terminate : Ann := (.two .nil (.two .nil (.two (.two .nil (.two (.two .nil .nil) .nil)) (.two .nil (.two .nil (.two .nil (.two .nil .nil)))))))
theorem Cf33_Terminate_ok : Cf33_Terminate.Ok := mkC_ok mixed tysOk zerosOk eqsOk ⟨Sf71_runs, Sf74_alive, trivial⟩ trivial
theorem Ef33_Terminate (x : (Option Addr × Int)) : evF Cf33_Terminate Tryz.f33 30 (.pair .ptr (.int .i64)) (.int .i64) Af33_Terminate x = f33_Terminate x.1 x.2 := by kernel_rfl
theorem Sf33_Terminate : SoundF Tryz.prog 33 ⟨(.pair .ptr (.int .i64)), (.int .i64), fun x => f33_Terminate x.1 x.2⟩ :=
  soundF_of Cf33_Terminate_ok Tryz.func33 (by kernel_rfl) (by kernel_rfl) Ef33_Terminate
noncomputable def Cf35_SetPriority : Ctx := mkC Tryz.prog tys zeros eqs [(70, ⟨.ptr, (.int .i64), fun x => f70_behind x⟩), (71, ⟨.ptr, (.tup .unit), fun x => f71_runs x⟩), (74, ⟨(.pair .ptr (.int .i64)), (.int .i64), fun x => f74_alive x.1 x.2⟩)] []
/-- (*palaverpalaverref26.Sched).SetPriority -/
noncomputable def f35_SetPriority (x0 : Option Addr) (x1 : Int) (x2 : Int) : M Int :=
  bnd (f74_alive x0 x1) fun (r1 : Int) =>
  cnd (r1 != (0 : Int)) (
  ret r1) (
  cnd (cond (decide (x2 < (1 : Int))) true (decide (x2 > (16 : Int)))) (
  ret (1 : Int)) (
  bnd (drf x0) fun (p2 : Addr) =>
  bnd (ld .sl (Addr.add p2 1)) fun (v3 : Sl) =>
  bnd (ix 4 v3 (IntKind.wrap .i64 (x1 - (1 : Int)))) fun (p4 : Addr) =>
  bnd (wrs (Addr.add p4 0) 0 [.int .i64 x2]) fun _ =>
  bnd (drf x0) fun (p5 : Addr) =>
  bnd (ld .sl (Addr.add p5 1)) fun (v6 : Sl) =>
  bnd (ix 4 v6 (IntKind.wrap .i64 (x1 - (1 : Int)))) fun (p7 : Addr) =>
  bnd (ld (.int .u8) (Addr.add p7 1)) fun (v8 : Int) =>
  bnd (
  cnd (v8 == (1 : Int)) (
  bnd (
  bnd (ordM 35 8 (regionIn 8 Tryz.f35)) fun (o11 : List Nat) =>
  bnd (drf x0) fun (p12 : Addr) =>
  bnd (ld .sl (Addr.add p12 1)) fun (v13 : Sl) =>
  bnd (f70_behind x0) fun (r14 : Int) =>
  bnd (
  bnd (chk .sl (Addr.add p12 1) v13) fun _ =>
  ret ()) fun _ =>
  bnd (ix 4 v13 (IntKind.wrap .i64 (x1 - (1 : Int)))) fun (p15 : Addr) =>
  bnd (wrs (Addr.add p15 3) 0 [.int .i64 r14]) fun _ =>
  bnd (ret ()) fun _ =>
  ret ()) fun (s10 : Unit) =>
  ret ()) (
  ret ())) fun (s9 : Unit) =>
  bnd (f71_runs x0) fun (r16 : Unit) =>
  ret (0 : Int)))
noncomputable def Af35_SetPriority : Ann := (.two .nil (.two .nil (.two (.two .nil (.two (.two .nil .nil) .nil)) (.two (.two .nil (.two (.two .nil .nil) .nil)) (.two .nil (.two (.two .nil (.join [] [39, 40, 41, 42, 43, 44, 45, 46, 47, 48] false (.two (.join [] [39, 40, 41, 42, 43, 44, 45, 46, 47, 48] false (.ord 35 [(0, 2046), (1, 2044), (2, 2041), (4, 2035), (0, 2031), (16, 1999), (0, 1983), (64, 1855), (255, 1751), (511, 1279), (767, 383)] (.o 0 (.o 1 (.o 2 (.o 3 (.o 4 (.o 5 (.o 6 (.o 7 (.o 8 (.o 9 (.o 10 .done))))))))))))) .nil))) (.two .nil (.two .nil .nil))))))))
theorem Cf35_SetPriority_ok : Cf35_SetPriority.Ok := mkC_ok mixed tysOk zerosOk eqsOk ⟨Sf70_behind, Sf71_runs, Sf74_alive, trivial⟩ trivial
theorem Ef35_SetPriority (x : (Option Addr × (Int × Int))) : evF Cf35_SetPriority Tryz.f35 51 (.pair .ptr (.pair (.int .i64) (.int .i64))) (.int .i64) Af35_SetPriority x = f35_SetPriority x.1 x.2.1 x.2.2 := by kernel_rfl
theorem Sf35_SetPriority : SoundF Tryz.prog 35 ⟨(.pair .ptr (.pair (.int .i64) (.int .i64))), (.int .i64), fun x => f35_SetPriority x.1 x.2.1 x.2.2⟩ :=
  soundF_of Cf35_SetPriority_ok Tryz.func35 (by kernel_rfl) (by kernel_rfl) Ef35_SetPriority
noncomputable def Cf36_At : Ctx := mkC Tryz.prog tys zeros eqs [(70, ⟨.ptr, (.int .i64), fun x => f70_behind x⟩), (72, ⟨(.pair .ptr (.int .i64)), .bool, fun x => f72_is x.1 x.2⟩)] []
/-- (*palaverpalaverref26.Sched).At -/
noncomputable def f36_At (x0 : Option Addr) (x1 : Int) (x2 : Int) : M Int :=
  bnd (f72_is x0 x1) fun (r1 : Bool) =>
  cnd (!r1) (
  ret (261 : Int)) (
  cnd (cond (decide (x2 < (0 : Int))) true (decide (x2 > (1152921504606846976 : Int)))) (
  ret (1 : Int)) (
  bnd (drf x0) fun (p2 : Addr) =>
  bnd (ld .sl (Addr.add p2 3)) fun (v3 : Sl) =>
  cnd (decide ((v3.len : Int) ≥ (4096 : Int))) (
  ret (264 : Int)) (
  bnd (
  bnd (ordM 36 8 (regionIn 8 Tryz.f36)) fun (o5 : List Nat) =>
  bnd (drf x0) fun (p6 : Addr) =>
  bnd (ld .sl (Addr.add p6 3)) fun (v7 : Sl) =>
  bnd (f70_behind x0) fun (r8 : Int) =>
  bnd (
  bnd (chk .sl (Addr.add p6 3) v7) fun _ =>
  ret ()) fun _ =>
  bnd (runV Tryz.prog .sl (Instr.buildSlice 29 1 #[(0, .agg #[.int .i64 x2, .int .i64 x1, .int .i64 r8])])) fun (v9 : Sl) =>
  bnd (
  bnd (chk .sl (Addr.add p6 3) v7) fun _ =>
  ret ()) fun _ =>
  bnd (runV Tryz.prog .sl (Builtin.append_ #[29, 29] 29 #[.slice v7.a v7.len v7.cap, .slice v9.a v9.len v9.cap])) fun (v10 : Sl) =>
  bnd (ret ()) fun _ =>
  bnd (drf x0) fun (p11 : Addr) =>
  bnd (wrs (Addr.add p11 3) 0 [.slice v10.a v10.len v10.cap]) fun _ =>
  bnd (ret ()) fun _ =>
  ret ()) fun (s4 : Unit) =>
  ret (0 : Int))))
noncomputable def Af36_At : Ann := (.two .nil (.two .nil (.two (.one (.two .nil (.two (.two .nil .nil) (.two .nil (.two (.two .nil .nil) (.two .nil (.two (.two .nil .nil) .nil))))))) (.two (.join [] [28, 29, 30, 31, 32, 33, 34, 35, 36, 37, 38, 39, 40, 41] false (.ord 36 [(0, 32766), (0, 32765), (2, 32761), (4, 32755), (8, 32743), (0, 32735), (0, 32703), (0, 32639), (128, 32383), (352, 31903), (512, 31231), (1296, 29679), (4095, 28670), (8191, 20479), (12287, 6143)] (.o 0 (.o 1 (.o 2 (.o 3 (.o 4 (.o 5 (.o 6 (.o 7 (.o 8 (.o 9 (.o 10 (.o 11 (.o 12 (.o 13 (.o 14 .done))))))))))))))))) (.two .nil .nil)))))
theorem Cf36_At_ok : Cf36_At.Ok := mkC_ok mixed tysOk zerosOk eqsOk ⟨Sf70_behind, Sf72_is, trivial⟩ trivial
theorem Ef36_At (x : (Option Addr × (Int × Int))) : evF Cf36_At Tryz.f36 42 (.pair .ptr (.pair (.int .i64) (.int .i64))) (.int .i64) Af36_At x = f36_At x.1 x.2.1 x.2.2 := by kernel_rfl
theorem Sf36_At : SoundF Tryz.prog 36 ⟨(.pair .ptr (.pair (.int .i64) (.int .i64))), (.int .i64), fun x => f36_At x.1 x.2.1 x.2.2⟩ :=
  soundF_of Cf36_At_ok Tryz.func36 (by kernel_rfl) (by kernel_rfl) Ef36_At
noncomputable def Cf51_next : Ctx := mkC Tryz.prog tys zeros eqs [] []
/-- (*palaverpalaverref26.Sched).next -/
noncomputable def f51_next (x0 : Option Addr) : M Int :=
  loopM (fun (s1 : (Int × Int)) =>
  bnd (drf x0) fun (p2 : Addr) =>
  bnd (ld .sl (Addr.add p2 3)) fun (v3 : Sl) =>
  cnd (decide (s1.2 < (v3.len : Int))) (
  bnd drawM fun _ =>
  bnd (
  cnd (decide (s1.1 < (0 : Int))) (
  ret true) (
  bnd (drf x0) fun (p4 : Addr) =>
  bnd (ld .sl (Addr.add p4 3)) fun (v5 : Sl) =>
  bnd (ix 3 v5 s1.2) fun (p6 : Addr) =>
  bnd (ld (.int .i64) (Addr.add p6 0)) fun (v7 : Int) =>
  bnd (drf x0) fun (p8 : Addr) =>
  bnd (ld .sl (Addr.add p8 3)) fun (v9 : Sl) =>
  bnd (ix 3 v9 s1.1) fun (p10 : Addr) =>
  bnd (ld (.int .i64) (Addr.add p10 0)) fun (v11 : Int) =>
  ret (decide (v7 < v11)))) fun (b12 : Bool) =>
  bnd (
  cnd b12 (
  ret s1.2) (
  ret s1.1)) fun (s13 : Int) =>
  ret (Sum.inl (s13, (IntKind.wrap .i64 (s1.2 + (1 : Int)))))) (
  ret (Sum.inr s1.1))) ((-1 : Int), (0 : Int))
noncomputable def Af51_next : Ann := (.two .nil (.two .nil (.two (.two .nil (.one (.loop [(3, (.int .i64)), (4, (.int .i64))] [5, 6, 7, 8, 9, 10, 11, 12, 13, 14, 15, 16, 17, 18, 19, 20, 21, 22, 23, 24, 25, 26, 27, 28, 29, 30, 31, 32, 33, 34, 35] (.two (.two .nil (.two .nil .nil)) (.two (.one (.two .nil (.join [(3, (.int .i64))] [35] false (.two .nil .nil)))) .nil))))) (.two .nil .nil))))
theorem Cf51_next_ok : Cf51_next.Ok := mkC_ok mixed tysOk zerosOk eqsOk trivial trivial
theorem Ef51_next (x : Option Addr) : evF Cf51_next Tryz.f51 37 .ptr (.int .i64) Af51_next x = f51_next x := by kernel_rfl
theorem Sf51_next : SoundF Tryz.prog 51 ⟨.ptr, (.int .i64), fun x => f51_next x⟩ :=
  soundF_of Cf51_next_ok Tryz.func51 (by kernel_rfl) (by kernel_rfl) Ef51_next
noncomputable def Cf37_Tick : Ctx := mkC Tryz.prog tys zeros eqs [(51, ⟨.ptr, (.int .i64), fun x => f51_next x⟩), (71, ⟨.ptr, (.tup .unit), fun x => f71_runs x⟩), (73, ⟨(.pair .ptr (.int .i64)), (.int .i64), fun x => f73_signal x.1 x.2⟩)] []
/-- (*palaverpalaverref26.Sched).Tick -/
noncomputable def f37_Tick (x0 : Option Addr) (x1 : Int) : M (Int × Int) :=
  bnd (drf x0) fun (p1 : Addr) =>
  bnd (ld (.int .i64) (Addr.add p1 0)) fun (v2 : Int) =>
  cnd (cond (decide (x1 < v2)) true (decide (x1 > (1152921504606846976 : Int)))) (
  ret ((0 : Int), (1 : Int))) (
  bnd (drf x0) fun (p3 : Addr) =>
  bnd (wrs (Addr.add p3 0) 0 [.int .i64 x1]) fun _ =>
  loopM (fun (s4 : Int) =>
  bnd (f51_next x0) fun (r5 : Int) =>
  bnd (
  cnd (decide (r5 < (0 : Int))) (
  ret true) (
  bnd (drf x0) fun (p6 : Addr) =>
  bnd (ld .sl (Addr.add p6 3)) fun (v7 : Sl) =>
  bnd (ix 3 v7 r5) fun (p8 : Addr) =>
  bnd (ld (.int .i64) (Addr.add p8 0)) fun (v9 : Int) =>
  ret (decide (v9 > x1)))) fun (b10 : Bool) =>
  cnd b10 (
  bnd (
  bnd (f71_runs x0) fun (r11 : Unit) =>
  ret (s4, (0 : Int))) fun r12 =>
  ret (Sum.inr r12)) (
  bnd (drf x0) fun (p13 : Addr) =>
  bnd (ld .sl (Addr.add p13 3)) fun (v14 : Sl) =>
  bnd (ix 3 v14 r5) fun (p15 : Addr) =>
  bnd (ld (.int .i64) (Addr.add p15 1)) fun (v16 : Int) =>
  bnd (drf x0) fun (p17 : Addr) =>
  bnd (ld .sl (Addr.add p17 3)) fun (v18 : Sl) =>
  bnd (slc 3 v18 none (some r5) none) fun (v19 : Sl) =>
  bnd (runV Tryz.prog .sl (Builtin.append_ #[29, 29] 29 #[.slice none 0 0, .slice v19.a v19.len v19.cap])) fun (v20 : Sl) =>
  bnd (drf x0) fun (p21 : Addr) =>
  bnd (ld .sl (Addr.add p21 3)) fun (v22 : Sl) =>
  bnd (slc 3 v22 (some (IntKind.wrap .i64 (r5 + (1 : Int)))) none none) fun (v23 : Sl) =>
  bnd (runV Tryz.prog .sl (Builtin.append_ #[29, 29] 29 #[.slice v20.a v20.len v20.cap, .slice v23.a v23.len v23.cap])) fun (v24 : Sl) =>
  bnd (drf x0) fun (p25 : Addr) =>
  bnd (wrs (Addr.add p25 3) 0 [.slice v24.a v24.len v24.cap]) fun _ =>
  bnd (f73_signal x0 v16) fun (r26 : Int) =>
  ret (Sum.inl (IntKind.wrap .i64 (s4 + (1 : Int)))))) (0 : Int))
noncomputable def Af37_Tick : Ann := (.two .nil (.two (.two .nil (.two (.two .nil .nil) .nil)) (.two .nil (.two .nil (.two (.one (.loop [(6, (.int .i64))] [7, 8, 9, 24, 25, 26, 27, 28, 29, 30, 31, 32, 33, 34, 35, 36, 37, 38, 39, 40, 41, 42, 43, 44, 45, 46, 47, 48, 49, 50, 51, 52, 53, 54, 55, 56, 57, 58, 59, 60, 61, 62, 63, 64, 65, 66, 67, 68, 69, 70, 71, 72] (.one (.two .nil (.two (.two .nil (.two .nil .nil)) (.two .nil (.two .nil (.two .nil (.two .nil (.two .nil .nil)))))))))) (.two .nil (.two .nil .nil)))))))
theorem Cf37_Tick_ok : Cf37_Tick.Ok := mkC_ok mixed tysOk zerosOk eqsOk ⟨Sf51_next, Sf71_runs, Sf73_signal, trivial⟩ trivial
theorem Ef37_Tick (x : (Option Addr × Int)) : evF Cf37_Tick Tryz.f37 76 (.pair .ptr (.int .i64)) (.tup (.pair (.int .i64) (.int .i64))) Af37_Tick x = f37_Tick x.1 x.2 := by kernel_rfl
theorem Sf37_Tick : SoundF Tryz.prog 37 ⟨(.pair .ptr (.int .i64)), (.tup (.pair (.int .i64) (.int .i64))), fun x => f37_Tick x.1 x.2⟩ :=
  soundF_of Cf37_Tick_ok Tryz.func37 (by kernel_rfl) (by kernel_rfl) Ef37_Tick
noncomputable def Cf39_Listen : Ctx := mkC Tryz.prog tys zeros eqs [(72, ⟨(.pair .ptr (.int .i64)), .bool, fun x => f72_is x.1 x.2⟩)] []
/-- (*palaverpalaverref26.Sched).Listen -/
noncomputable def f39_Listen (x0 : Option Addr) (x1 : Int) (x2 : Int) : M Int :=
  bnd (f72_is x0 x2) fun (r1 : Bool) =>
  cnd (cond (decide (x1 < (0 : Int))) true (decide (x1 ≥ (64 : Int)))) (
  ret (1 : Int)) (
  cnd (cond (x2 != (0 : Int)) (!r1) false) (
  ret (261 : Int)) (
  bnd (drf x0) fun (p2 : Addr) =>
  bnd (ixA 64 1 (Addr.add p2 4) x1) fun (p3 : Addr) =>
  bnd (wrs p3 0 [.int .i64 x2]) fun _ =>
  ret (0 : Int)))
noncomputable def Af39_Listen : Ann := (.two .nil (.two .nil (.two (.two .nil (.two (.two .nil .nil) .nil)) (.two (.two .nil (.two (.two .nil .nil) .nil)) (.two .nil (.two .nil .nil))))))
theorem Cf39_Listen_ok : Cf39_Listen.Ok := mkC_ok mixed tysOk zerosOk eqsOk ⟨Sf72_is, trivial⟩ trivial
theorem Ef39_Listen (x : (Option Addr × (Int × Int))) : evF Cf39_Listen Tryz.f39 29 (.pair .ptr (.pair (.int .i64) (.int .i64))) (.int .i64) Af39_Listen x = f39_Listen x.1 x.2.1 x.2.2 := by kernel_rfl
theorem Sf39_Listen : SoundF Tryz.prog 39 ⟨(.pair .ptr (.pair (.int .i64) (.int .i64))), (.int .i64), fun x => f39_Listen x.1 x.2.1 x.2.2⟩ :=
  soundF_of Cf39_Listen_ok Tryz.func39 (by kernel_rfl) (by kernel_rfl) Ef39_Listen
noncomputable def Cf41_Event : Ctx := mkC Tryz.prog tys zeros eqs [(29, ⟨(.pair .ptr (.int .i64)), (.int .i64), fun x => f29_Signal x.1 x.2⟩)] []
/-- (*palaverpalaverref26.Sched).Event -/
noncomputable def f41_Event (x0 : Option Addr) (x1 : Int) : M Bool :=
  bnd (
  cnd (cond (decide (x1 < (0 : Int))) true (decide (x1 ≥ (64 : Int)))) (
  ret true) (
  bnd (drf x0) fun (p1 : Addr) =>
  bnd (ixA 64 1 (Addr.add p1 4) x1) fun (p2 : Addr) =>
  bnd (ld (.int .i64) p2) fun (v3 : Int) =>
  ret (v3 == (0 : Int)))) fun (b4 : Bool) =>
  cnd b4 (
  ret false) (
  bnd (drf x0) fun (p5 : Addr) =>
  bnd (ixA 64 1 (Addr.add p5 4) x1) fun (p6 : Addr) =>
  bnd (ld (.int .i64) p6) fun (v7 : Int) =>
  bnd (f29_Signal x0 v7) fun (r8 : Int) =>
  ret true)
noncomputable def Af41_Event : Ann := (.two .nil (.two (.two .nil (.two (.two .nil .nil) .nil)) (.two .nil (.two .nil .nil))))
theorem Cf41_Event_ok : Cf41_Event.Ok := mkC_ok mixed tysOk zerosOk eqsOk ⟨Sf29_Signal, trivial⟩ trivial
theorem Ef41_Event (x : (Option Addr × Int)) : evF Cf41_Event Tryz.f41 28 (.pair .ptr (.int .i64)) .bool Af41_Event x = f41_Event x.1 x.2 := by kernel_rfl
theorem Sf41_Event : SoundF Tryz.prog 41 ⟨(.pair .ptr (.int .i64)), .bool, fun x => f41_Event x.1 x.2⟩ :=
  soundF_of Cf41_Event_ok Tryz.func41 (by kernel_rfl) (by kernel_rfl) Ef41_Event
noncomputable def Cf77_Standing : Ctx := mkC Tryz.prog tys zeros eqs [] []
/-- (*palaverpalaverref26.Sched).Standing -/
noncomputable def f77_Standing (x0 : Option Addr) (x1 : Int) : M (Int × (Int × Int)) :=
  bnd (
  cnd (decide (x1 < (1 : Int))) (
  ret true) (
  bnd (drf x0) fun (p1 : Addr) =>
  bnd (ld .sl (Addr.add p1 1)) fun (v2 : Sl) =>
  ret (decide (x1 > (v2.len : Int))))) fun (b3 : Bool) =>
  cnd b3 (
  ret ((0 : Int), (0 : Int), (260 : Int))) (
  bnd drawM fun _ =>
  bnd (drf x0) fun (p4 : Addr) =>
  bnd (ld .sl (Addr.add p4 1)) fun (v5 : Sl) =>
  bnd (ix 4 v5 (IntKind.wrap .i64 (x1 - (1 : Int)))) fun (p6 : Addr) =>
  bnd (ld (.int .u8) (Addr.add p6 1)) fun (v7 : Int) =>
  bnd (drf x0) fun (p8 : Addr) =>
  bnd (ld .sl (Addr.add p8 1)) fun (v9 : Sl) =>
  bnd (ix 4 v9 (IntKind.wrap .i64 (x1 - (1 : Int)))) fun (p10 : Addr) =>
  bnd (ld (.int .i64) (Addr.add p10 0)) fun (v11 : Int) =>
  ret (v7, v11, (0 : Int)))
noncomputable def Af77_Standing : Ann := (.two .nil (.two (.two .nil (.two (.two .nil .nil) .nil)) (.two .nil .nil)))
theorem Cf77_Standing_ok : Cf77_Standing.Ok := mkC_ok mixed tysOk zerosOk eqsOk trivial trivial
theorem Ef77_Standing (x : (Option Addr × Int)) : evF Cf77_Standing Tryz.f77 36 (.pair .ptr (.int .i64)) (.tup (.pair (.int .u8) (.pair (.int .i64) (.int .i64)))) Af77_Standing x = f77_Standing x.1 x.2 := by kernel_rfl
theorem Sf77_Standing : SoundF Tryz.prog 77 ⟨(.pair .ptr (.int .i64)), (.tup (.pair (.int .u8) (.pair (.int .i64) (.int .i64)))), fun x => f77_Standing x.1 x.2⟩ :=
  soundF_of Cf77_Standing_ok Tryz.func77 (by kernel_rfl) (by kernel_rfl) Ef77_Standing
noncomputable def Cf78_Waiting : Ctx := mkC Tryz.prog tys zeros eqs [(49, ⟨(.pair .ptr (.int .i64)), .sl, fun x => f49_Waits x.1 x.2⟩), (72, ⟨(.pair .ptr (.int .i64)), .bool, fun x => f72_is x.1 x.2⟩)] []
/-- (*palaverpalaverref26.Sched).Waiting -/
noncomputable def f78_Waiting (x0 : Option Addr) (x1 : Int) : M (Sl × (Int × Int)) :=
  bnd (f72_is x0 x1) fun (r1 : Bool) =>
  cnd (!r1) (
  ret ((Sl.mk none 0 0), (0 : Int), (261 : Int))) (
  bnd (
  bnd (ordM 78 4 (regionIn 4 Tryz.f78)) fun (o3 : List Nat) =>
  bnd (drf x0) fun (p4 : Addr) =>
  bnd (ld .sl (Addr.add p4 2)) fun (v5 : Sl) =>
  bnd (ix 1 v5 (IntKind.wrap .i64 (x1 - (1 : Int)))) fun (p6 : Addr) =>
  bnd (ld (.int .i64) p6) fun (v7 : Int) =>
  bnd (f49_Waits x0 x1) fun (r8 : Sl) =>
  bnd (
  bnd (chk (.int .i64) p6 v7) fun _ =>
  bnd (chk .sl (Addr.add p4 2) v5) fun _ =>
  ret ()) fun _ =>
  ret (r8, v7, (0 : Int))) fun (s2 : (Sl × (Int × Int))) =>
  ret (s2.1, s2.2.1, s2.2.2))
noncomputable def Af78_Waiting : Ann := (.two .nil (.two .nil (.two (.two .nil (.two (.two .nil .nil) .nil)) (.two (.join [(4, .sl), (5, (.int .i64)), (6, (.int .i64))] [13, 14, 15, 16, 17, 18, 19, 20, 21, 22, 23] false (.ord 78 [(0, 16382), (0, 16381), (3, 16376), (0, 16375), (8, 16359), (16, 16335), (32, 16287), (0, 16255), (128, 15999), (320, 15551), (512, 14847), (7, 14331), (4095, 11263), (8191, 8191)] (.o 0 (.o 1 (.o 3 (.o 4 (.o 5 (.o 6 (.o 7 (.o 8 (.o 9 (.o 10 (.o 2 (.o 11 (.o 12 (.o 13 .done)))))))))))))))) .nil))))
theorem Cf78_Waiting_ok : Cf78_Waiting.Ok := mkC_ok mixed tysOk zerosOk eqsOk ⟨Sf49_Waits, Sf72_is, trivial⟩ trivial
theorem Ef78_Waiting (x : (Option Addr × Int)) : evF Cf78_Waiting Tryz.f78 24 (.pair .ptr (.int .i64)) (.tup (.pair .sl (.pair (.int .i64) (.int .i64)))) Af78_Waiting x = f78_Waiting x.1 x.2 := by kernel_rfl
theorem Sf78_Waiting : SoundF Tryz.prog 78 ⟨(.pair .ptr (.int .i64)), (.tup (.pair .sl (.pair (.int .i64) (.int .i64)))), fun x => f78_Waiting x.1 x.2⟩ :=
  soundF_of Cf78_Waiting_ok Tryz.func78 (by kernel_rfl) (by kernel_rfl) Ef78_Waiting
noncomputable def Cf50_Queue : Ctx := mkC Tryz.prog tys zeros eqs [(85, ⟨(.pair .ptr (.pair (.int .u8) (.pair (.int .i64) (.int .i64)))), .sl, fun x => f85_order x.1 x.2.1 x.2.2.1 x.2.2.2⟩)] []
/-- (*palaverpalaverref26.Sched).Queue -/
noncomputable def f50_Queue (x0 : Option Addr) (x1 : Int) : M Sl :=
  bnd (f85_order x0 (1 : Int) x1 (0 : Int)) fun (r1 : Sl) =>
  ret r1
noncomputable def Af50_Queue : Ann := (.two .nil (.two .nil .nil))
theorem Cf50_Queue_ok : Cf50_Queue.Ok := mkC_ok mixed tysOk zerosOk eqsOk ⟨Sf85_order, trivial⟩ trivial
theorem Ef50_Queue (x : (Option Addr × Int)) : evF Cf50_Queue Tryz.f50 8 (.pair .ptr (.int .i64)) .sl Af50_Queue x = f50_Queue x.1 x.2 := by kernel_rfl
theorem Sf50_Queue : SoundF Tryz.prog 50 ⟨(.pair .ptr (.int .i64)), .sl, fun x => f50_Queue x.1 x.2⟩ :=
  soundF_of Cf50_Queue_ok Tryz.func50 (by kernel_rfl) (by kernel_rfl) Ef50_Queue
noncomputable def Cf79_Ready : Ctx := mkC Tryz.prog tys zeros eqs [(50, ⟨(.pair .ptr (.int .i64)), .sl, fun x => f50_Queue x.1 x.2⟩)] []
/-- (*palaverpalaverref26.Sched).Ready -/
noncomputable def f79_Ready (x0 : Option Addr) : M Sl :=
  loopM (fun (s1 : (Sl × Int)) =>
  cnd (decide (s1.2 ≥ (1 : Int))) (
  bnd (f50_Queue x0 s1.2) fun (r2 : Sl) =>
  bnd (runV Tryz.prog .sl (Builtin.append_ #[28, 28] 28 #[.slice s1.1.a s1.1.len s1.1.cap, .slice r2.a r2.len r2.cap])) fun (v3 : Sl) =>
  ret (Sum.inl (v3, (IntKind.wrap .i64 (s1.2 - (1 : Int)))))) (
  ret (Sum.inr s1.1))) ((Sl.mk none 0 0), (16 : Int))
noncomputable def Af79_Ready : Ann := (.two .nil (.two .nil (.two (.two .nil (.one (.loop [(3, .sl), (4, (.int .i64))] [5, 6, 7, 8, 9, 10, 11, 12, 13] (.two (.two .nil (.two .nil .nil)) (.two (.one .nil) .nil))))) (.two .nil .nil))))
theorem Cf79_Ready_ok : Cf79_Ready.Ok := mkC_ok mixed tysOk zerosOk eqsOk ⟨Sf50_Queue, trivial⟩ trivial
theorem Ef79_Ready (x : Option Addr) : evF Cf79_Ready Tryz.f79 15 .ptr .sl Af79_Ready x = f79_Ready x := by kernel_rfl
theorem Sf79_Ready : SoundF Tryz.prog 79 ⟨.ptr, .sl, fun x => f79_Ready x⟩ :=
  soundF_of Cf79_Ready_ok Tryz.func79 (by kernel_rfl) (by kernel_rfl) Ef79_Ready
noncomputable def Cf81_Next : Ctx := mkC Tryz.prog tys zeros eqs [(51, ⟨.ptr, (.int .i64), fun x => f51_next x⟩)] []
/-- (*palaverpalaverref26.Sched).Next -/
noncomputable def f81_Next (x0 : Option Addr) : M (Int × Bool) :=
  bnd (f51_next x0) fun (r1 : Int) =>
  cnd (decide (r1 < (0 : Int))) (
  ret ((0 : Int), false)) (
  bnd (drf x0) fun (p2 : Addr) =>
  bnd (ld .sl (Addr.add p2 3)) fun (v3 : Sl) =>
  bnd (ix 3 v3 r1) fun (p4 : Addr) =>
  bnd (ld (.int .i64) (Addr.add p4 0)) fun (v5 : Int) =>
  ret (v5, true))
noncomputable def Af81_Next : Ann := (.two .nil (.two .nil (.two (.two .nil (.two (.two .nil .nil) .nil)) (.two .nil .nil))))
theorem Cf81_Next_ok : Cf81_Next.Ok := mkC_ok mixed tysOk zerosOk eqsOk ⟨Sf51_next, trivial⟩ trivial
theorem Ef81_Next (x : Option Addr) : evF Cf81_Next Tryz.f81 17 .ptr (.tup (.pair (.int .i64) .bool)) Af81_Next x = f81_Next x := by kernel_rfl
theorem Sf81_Next : SoundF Tryz.prog 81 ⟨.ptr, (.tup (.pair (.int .i64) .bool)), fun x => f81_Next x⟩ :=
  soundF_of Cf81_Next_ok Tryz.func81 (by kernel_rfl) (by kernel_rfl) Ef81_Next
noncomputable def Cf42_looks : Ctx := mkC Tryz.prog tys zeros eqs [(7, ⟨.ptr, (.int .i64), fun x => f7_Active x⟩), (8, ⟨.ptr, (.int .i64), fun x => f8_Active x⟩), (11, ⟨(.pair .sl .sl), .bool, fun x => f11_SameInts x.1 x.2⟩), (13, ⟨.ptr, .sl, fun x => f13_Ready x⟩), (14, ⟨(.pair .ptr (.int .i64)), (.tup (.pair .sl (.pair (.int .i64) (.int .i64)))), fun x => f14_Waiting x.1 x.2⟩), (76, ⟨(.pair .ptr (.int .i64)), (.tup (.pair (.int .u8) (.pair (.int .i64) (.int .i64)))), fun x => f76_Standing x.1 x.2⟩), (77, ⟨(.pair .ptr (.int .i64)), (.tup (.pair (.int .u8) (.pair (.int .i64) (.int .i64)))), fun x => f77_Standing x.1 x.2⟩), (78, ⟨(.pair .ptr (.int .i64)), (.tup (.pair .sl (.pair (.int .i64) (.int .i64)))), fun x => f78_Waiting x.1 x.2⟩), (79, ⟨.ptr, .sl, fun x => f79_Ready x⟩), (80, ⟨.ptr, (.tup (.pair (.int .i64) .bool)), fun x => f80_Next x⟩), (81, ⟨.ptr, (.tup (.pair (.int .i64) .bool)), fun x => f81_Next x⟩)] []
/-- palaverpalaverlaw26.looks -/
noncomputable def f42_looks (x0 : Option Addr) (x1 : Option Addr) (x2 : Int) : M Bool :=
  bnd (f76_Standing x0 x2) fun (r1 : (Int × (Int × Int))) =>
  bnd (f77_Standing x1 x2) fun (r2 : (Int × (Int × Int))) =>
  bnd (f14_Waiting x0 x2) fun (r3 : (Sl × (Int × Int))) =>
  bnd (f78_Waiting x1 x2) fun (r4 : (Sl × (Int × Int))) =>
  bnd (f11_SameInts r3.1 r4.1) fun (r5 : Bool) =>
  bnd (f13_Ready x0) fun (r6 : Sl) =>
  bnd (f79_Ready x1) fun (r7 : Sl) =>
  bnd (f11_SameInts r6 r7) fun (r8 : Bool) =>
  bnd (f80_Next x0) fun (r9 : (Int × Bool)) =>
  bnd (f81_Next x1) fun (r10 : (Int × Bool)) =>
  bnd (
  cnd (cond (cond (cond (cond (cond (cond (cond (cond (r1.1 == r2.1) (r1.2.1 == r2.2.1) false) (r1.2.2 == r2.2.2) false) r5 false) (r3.2.1 == r4.2.1) false) (r3.2.2 == r4.2.2) false) r8 false) (r9.1 == r10.1) false) (r9.2 == r10.2) false) (
  bnd (f7_Active x0) fun (r11 : Int) =>
  bnd (f8_Active x1) fun (r12 : Int) =>
  ret (r11 == r12)) (
  ret false)) fun (b13 : Bool) =>
  ret b13
noncomputable def Af42_looks : Ann := (.two .nil (.two .nil (.two .nil (.two .nil (.two .nil (.two .nil (.two .nil (.two .nil (.two .nil (.two .nil (.two .nil (.two .nil .nil))))))))))))
theorem Cf42_looks_ok : Cf42_looks.Ok := mkC_ok mixed tysOk zerosOk eqsOk ⟨Sf7_Active, Sf8_Active, Sf11_SameInts, Sf13_Ready, Sf14_Waiting, Sf76_Standing, Sf77_Standing, Sf78_Waiting, Sf79_Ready, Sf80_Next, Sf81_Next, trivial⟩ trivial
theorem Ef42_looks (x : (Option Addr × (Option Addr × Int))) : evF Cf42_looks Tryz.f42 121 (.pair .ptr (.pair .ptr (.int .i64))) .bool Af42_looks x = f42_looks x.1 x.2.1 x.2.2 := by kernel_rfl
theorem Sf42_looks : SoundF Tryz.prog 42 ⟨(.pair .ptr (.pair .ptr (.int .i64))), .bool, fun x => f42_looks x.1 x.2.1 x.2.2⟩ :=
  soundF_of Cf42_looks_ok Tryz.func42 (by kernel_rfl) (by kernel_rfl) Ef42_looks
noncomputable def Cf6_does : Ctx := mkC Tryz.prog tys zeros eqs [(16, ⟨(.pair .ptr (.int .i64)), (.tup (.pair (.int .i64) (.int .i64))), fun x => f16_Fork x.1 x.2⟩), (17, ⟨.ptr, (.tup (.pair (.int .i64) (.int .i64))), fun x => f17_Semaphore x⟩), (18, ⟨(.pair .ptr (.int .i64)), (.int .i64), fun x => f18_Wait x.1 x.2⟩), (19, ⟨(.pair .ptr (.int .i64)), (.int .i64), fun x => f19_Signal x.1 x.2⟩), (20, ⟨(.pair .ptr (.int .i64)), (.int .i64), fun x => f20_Terminate x.1 x.2⟩), (21, ⟨.ptr, (.int .i64), fun x => f21_Yield x⟩), (22, ⟨(.pair .ptr (.pair (.int .i64) (.int .i64))), (.int .i64), fun x => f22_At x.1 x.2.1 x.2.2⟩), (23, ⟨(.pair .ptr (.int .i64)), (.tup (.pair (.int .i64) (.int .i64))), fun x => f23_Tick x.1 x.2⟩), (24, ⟨(.pair .ptr (.int .i64)), (.int .i64), fun x => f24_Resume x.1 x.2⟩), (25, ⟨(.pair .ptr (.int .i64)), (.tup (.pair (.int .i64) (.int .i64))), fun x => f25_Fork x.1 x.2⟩), (26, ⟨.ptr, (.int .i64), fun x => f26_Yield x⟩), (27, ⟨.ptr, (.tup (.pair (.int .i64) (.int .i64))), fun x => f27_Semaphore x⟩), (28, ⟨(.pair .ptr (.int .i64)), (.int .i64), fun x => f28_Wait x.1 x.2⟩), (29, ⟨(.pair .ptr (.int .i64)), (.int .i64), fun x => f29_Signal x.1 x.2⟩), (30, ⟨(.pair .ptr (.int .i64)), (.int .i64), fun x => f30_Suspend x.1 x.2⟩), (31, ⟨(.pair .ptr (.int .i64)), (.int .i64), fun x => f31_Suspend x.1 x.2⟩), (32, ⟨(.pair .ptr (.int .i64)), (.int .i64), fun x => f32_Resume x.1 x.2⟩), (33, ⟨(.pair .ptr (.int .i64)), (.int .i64), fun x => f33_Terminate x.1 x.2⟩), (34, ⟨(.pair .ptr (.pair (.int .i64) (.int .i64))), (.int .i64), fun x => f34_SetPriority x.1 x.2.1 x.2.2⟩), (35, ⟨(.pair .ptr (.pair (.int .i64) (.int .i64))), (.int .i64), fun x => f35_SetPriority x.1 x.2.1 x.2.2⟩), (36, ⟨(.pair .ptr (.pair (.int .i64) (.int .i64))), (.int .i64), fun x => f36_At x.1 x.2.1 x.2.2⟩), (37, ⟨(.pair .ptr (.int .i64)), (.tup (.pair (.int .i64) (.int .i64))), fun x => f37_Tick x.1 x.2⟩), (38, ⟨(.pair .ptr (.pair (.int .i64) (.int .i64))), (.int .i64), fun x => f38_Listen x.1 x.2.1 x.2.2⟩), (39, ⟨(.pair .ptr (.pair (.int .i64) (.int .i64))), (.int .i64), fun x => f39_Listen x.1 x.2.1 x.2.2⟩), (40, ⟨(.pair .ptr (.int .i64)), .bool, fun x => f40_Event x.1 x.2⟩), (41, ⟨(.pair .ptr (.int .i64)), .bool, fun x => f41_Event x.1 x.2⟩), (42, ⟨(.pair .ptr (.pair .ptr (.int .i64))), .bool, fun x => f42_looks x.1 x.2.1 x.2.2⟩)] []
/-- palaverpalaverlaw26.does -/
noncomputable def f6_does (x0 : Option Addr) (x1 : Option Addr) (x2 : (Int × (Int × Int))) : M Bool :=
  bnd (newC 35 [.int .i64 x2.1, .int .i64 x2.2.1, .int .i64 x2.2.2]) fun (p1 : Addr) =>
  bnd (ld (.int .i64) (Addr.add p1 0)) fun (v2 : Int) =>
  cnd (v2 == (1 : Int)) (
  bnd (ld (.int .i64) (Addr.add p1 1)) fun (v3 : Int) =>
  bnd (f16_Fork x0 v3) fun (r4 : (Int × Int)) =>
  bnd (ld (.int .i64) (Addr.add p1 1)) fun (v5 : Int) =>
  bnd (f25_Fork x1 v5) fun (r6 : (Int × Int)) =>
  ret (cond (r4.1 == r6.1) (r4.2 == r6.2) false)) (
  cnd (v2 == (2 : Int)) (
  bnd (f21_Yield x0) fun (r7 : Int) =>
  bnd (f26_Yield x1) fun (r8 : Int) =>
  ret (r7 == r8)) (
  cnd (v2 == (3 : Int)) (
  bnd (f17_Semaphore x0) fun (r9 : (Int × Int)) =>
  bnd (f27_Semaphore x1) fun (r10 : (Int × Int)) =>
  ret (cond (r9.1 == r10.1) (r9.2 == r10.2) false)) (
  cnd (v2 == (4 : Int)) (
  bnd (
  bnd (ordM 6 13 (regionIn 13 Tryz.f6)) fun (o12 : List Nat) =>
  bnd (ld (.int .i64) (Addr.add p1 1)) fun (v13 : Int) =>
  bnd (ld (.int .i64) (Addr.add p1 1)) fun (v14 : Int) =>
  bnd (f18_Wait x0 v13) fun (r15 : Int) =>
  bnd (
  bnd (chk (.int .i64) (Addr.add p1 1) v14) fun _ =>
  ret ()) fun _ =>
  bnd (f28_Wait x1 v14) fun (r16 : Int) =>
  bnd (ret ()) fun _ =>
  ret (r15 == r16)) fun (s11 : Bool) =>
  ret s11) (
  cnd (v2 == (5 : Int)) (
  bnd (
  bnd (ordM 6 15 (regionIn 15 Tryz.f6)) fun (o18 : List Nat) =>
  bnd (ld (.int .i64) (Addr.add p1 1)) fun (v19 : Int) =>
  bnd (ld (.int .i64) (Addr.add p1 1)) fun (v20 : Int) =>
  bnd (f19_Signal x0 v19) fun (r21 : Int) =>
  bnd (
  bnd (chk (.int .i64) (Addr.add p1 1) v20) fun _ =>
  ret ()) fun _ =>
  bnd (f29_Signal x1 v20) fun (r22 : Int) =>
  bnd (ret ()) fun _ =>
  ret (r21 == r22)) fun (s17 : Bool) =>
  ret s17) (
  cnd (v2 == (6 : Int)) (
  bnd (
  bnd (ordM 6 17 (regionIn 17 Tryz.f6)) fun (o24 : List Nat) =>
  bnd (ld (.int .i64) (Addr.add p1 1)) fun (v25 : Int) =>
  bnd (ld (.int .i64) (Addr.add p1 1)) fun (v26 : Int) =>
  bnd (f30_Suspend x0 v25) fun (r27 : Int) =>
  bnd (
  bnd (chk (.int .i64) (Addr.add p1 1) v26) fun _ =>
  ret ()) fun _ =>
  bnd (f31_Suspend x1 v26) fun (r28 : Int) =>
  bnd (ret ()) fun _ =>
  ret (r27 == r28)) fun (s23 : Bool) =>
  ret s23) (
  cnd (v2 == (7 : Int)) (
  bnd (
  bnd (ordM 6 19 (regionIn 19 Tryz.f6)) fun (o30 : List Nat) =>
  bnd (ld (.int .i64) (Addr.add p1 1)) fun (v31 : Int) =>
  bnd (ld (.int .i64) (Addr.add p1 1)) fun (v32 : Int) =>
  bnd (f24_Resume x0 v31) fun (r33 : Int) =>
  bnd (
  bnd (chk (.int .i64) (Addr.add p1 1) v32) fun _ =>
  ret ()) fun _ =>
  bnd (f32_Resume x1 v32) fun (r34 : Int) =>
  bnd (ret ()) fun _ =>
  ret (r33 == r34)) fun (s29 : Bool) =>
  ret s29) (
  cnd (v2 == (8 : Int)) (
  bnd (
  bnd (ordM 6 21 (regionIn 21 Tryz.f6)) fun (o36 : List Nat) =>
  bnd (ld (.int .i64) (Addr.add p1 1)) fun (v37 : Int) =>
  bnd (ld (.int .i64) (Addr.add p1 1)) fun (v38 : Int) =>
  bnd (f20_Terminate x0 v37) fun (r39 : Int) =>
  bnd (
  bnd (chk (.int .i64) (Addr.add p1 1) v38) fun _ =>
  ret ()) fun _ =>
  bnd (f33_Terminate x1 v38) fun (r40 : Int) =>
  bnd (ret ()) fun _ =>
  ret (r39 == r40)) fun (s35 : Bool) =>
  ret s35) (
  cnd (v2 == (9 : Int)) (
  bnd (
  bnd (ordM 6 23 (regionIn 23 Tryz.f6)) fun (o42 : List Nat) =>
  bnd (ld (.int .i64) (Addr.add p1 1)) fun (v43 : Int) =>
  bnd (ld (.int .i64) (Addr.add p1 2)) fun (v44 : Int) =>
  bnd (ld (.int .i64) (Addr.add p1 1)) fun (v45 : Int) =>
  bnd (ld (.int .i64) (Addr.add p1 2)) fun (v46 : Int) =>
  bnd (f34_SetPriority x0 v43 v44) fun (r47 : Int) =>
  bnd (
  bnd (chk (.int .i64) (Addr.add p1 2) v46) fun _ =>
  bnd (chk (.int .i64) (Addr.add p1 1) v45) fun _ =>
  ret ()) fun _ =>
  bnd (f35_SetPriority x1 v45 v46) fun (r48 : Int) =>
  bnd (ret ()) fun _ =>
  ret (r47 == r48)) fun (s41 : Bool) =>
  ret s41) (
  cnd (v2 == (10 : Int)) (
  bnd (
  bnd (ordM 6 25 (regionIn 25 Tryz.f6)) fun (o50 : List Nat) =>
  bnd (ld (.int .i64) (Addr.add p1 1)) fun (v51 : Int) =>
  bnd (ld (.int .i64) (Addr.add p1 2)) fun (v52 : Int) =>
  bnd (ld (.int .i64) (Addr.add p1 1)) fun (v53 : Int) =>
  bnd (ld (.int .i64) (Addr.add p1 2)) fun (v54 : Int) =>
  bnd (f22_At x0 v51 v52) fun (r55 : Int) =>
  bnd (
  bnd (chk (.int .i64) (Addr.add p1 2) v54) fun _ =>
  bnd (chk (.int .i64) (Addr.add p1 1) v53) fun _ =>
  ret ()) fun _ =>
  bnd (f36_At x1 v53 v54) fun (r56 : Int) =>
  bnd (ret ()) fun _ =>
  ret (r55 == r56)) fun (s49 : Bool) =>
  ret s49) (
  cnd (v2 == (11 : Int)) (
  bnd (ld (.int .i64) (Addr.add p1 1)) fun (v57 : Int) =>
  bnd (f23_Tick x0 v57) fun (r58 : (Int × Int)) =>
  bnd (ld (.int .i64) (Addr.add p1 1)) fun (v59 : Int) =>
  bnd (f37_Tick x1 v59) fun (r60 : (Int × Int)) =>
  ret (cond (r58.1 == r60.1) (r58.2 == r60.2) false)) (
  cnd (v2 == (12 : Int)) (
  bnd (
  bnd (ordM 6 31 (regionIn 31 Tryz.f6)) fun (o62 : List Nat) =>
  bnd (ld (.int .i64) (Addr.add p1 1)) fun (v63 : Int) =>
  bnd (ld (.int .i64) (Addr.add p1 2)) fun (v64 : Int) =>
  bnd (ld (.int .i64) (Addr.add p1 1)) fun (v65 : Int) =>
  bnd (ld (.int .i64) (Addr.add p1 2)) fun (v66 : Int) =>
  bnd (f38_Listen x0 v63 v64) fun (r67 : Int) =>
  bnd (
  bnd (chk (.int .i64) (Addr.add p1 2) v66) fun _ =>
  bnd (chk (.int .i64) (Addr.add p1 1) v65) fun _ =>
  ret ()) fun _ =>
  bnd (f39_Listen x1 v65 v66) fun (r68 : Int) =>
  bnd (ret ()) fun _ =>
  ret (r67 == r68)) fun (s61 : Bool) =>
  ret s61) (
  cnd (v2 == (13 : Int)) (
  bnd (
  bnd (ordM 6 33 (regionIn 33 Tryz.f6)) fun (o70 : List Nat) =>
  bnd (ld (.int .i64) (Addr.add p1 1)) fun (v71 : Int) =>
  bnd (ld (.int .i64) (Addr.add p1 1)) fun (v72 : Int) =>
  bnd (f40_Event x0 v71) fun (r73 : Bool) =>
  bnd (
  bnd (chk (.int .i64) (Addr.add p1 1) v72) fun _ =>
  ret ()) fun _ =>
  bnd (f41_Event x1 v72) fun (r74 : Bool) =>
  bnd (ret ()) fun _ =>
  ret (r73 == r74)) fun (s69 : Bool) =>
  ret s69) (
  bnd (ld (.int .i64) (Addr.add p1 1)) fun (v75 : Int) =>
  bnd (f42_looks x0 x1 v75) fun (r76 : Bool) =>
  ret r76)))))))))))))
noncomputable def Af6_does : Ann := (.two .nil (.two (.two .nil (.one (.two .nil (.two (.two .nil (.two .nil (.two .nil .nil))) (.two .nil (.two (.two .nil .nil) (.two .nil (.two (.two .nil (.two .nil (.two .nil .nil))) (.two .nil (.two (.two (.join [(6, .bool)] [74, 75, 76, 77, 78, 79, 80, 81, 82] false (.ord 6 [(0, 1022), (0, 1021), (2, 1017), (5, 1010), (0, 1007), (0, 991), (32, 927), (88, 815), (136, 631), (511, 255)] (.o 0 (.o 1 (.o 2 (.o 4 (.o 5 (.o 6 (.o 3 (.o 7 (.o 8 (.o 9 .done)))))))))))) .nil) (.two .nil (.two (.two (.join [(6, .bool)] [85, 86, 87, 88, 89, 90, 91, 92, 93] false (.ord 6 [(0, 1022), (0, 1021), (2, 1017), (5, 1010), (0, 1007), (0, 991), (32, 927), (88, 815), (136, 631), (511, 255)] (.o 0 (.o 1 (.o 2 (.o 4 (.o 5 (.o 6 (.o 3 (.o 7 (.o 8 (.o 9 .done)))))))))))) .nil) (.two .nil (.two (.two (.join [(6, .bool)] [96, 97, 98, 99, 100, 101, 102, 103, 104] false (.ord 6 [(0, 1022), (0, 1021), (2, 1017), (5, 1010), (0, 1007), (0, 991), (32, 927), (88, 815), (136, 631), (511, 255)] (.o 0 (.o 1 (.o 2 (.o 4 (.o 5 (.o 6 (.o 3 (.o 7 (.o 8 (.o 9 .done)))))))))))) .nil) (.two .nil (.two (.two (.join [(6, .bool)] [107, 108, 109, 110, 111, 112, 113, 114, 115] false (.ord 6 [(0, 1022), (0, 1021), (2, 1017), (5, 1010), (0, 1007), (0, 991), (32, 927), (88, 815), (136, 631), (511, 255)] (.o 0 (.o 1 (.o 2 (.o 4 (.o 5 (.o 6 (.o 3 (.o 7 (.o 8 (.o 9 .done)))))))))))) .nil) (.two .nil (.two (.two (.join [(6, .bool)] [118, 119, 120, 121, 122, 123, 124, 125, 126] false (.ord 6 [(0, 1022), (0, 1021), (2, 1017), (5, 1010), (0, 1007), (0, 991), (32, 927), (88, 815), (136, 631), (511, 255)] (.o 0 (.o 1 (.o 2 (.o 4 (.o 5 (.o 6 (.o 3 (.o 7 (.o 8 (.o 9 .done)))))))))))) .nil) (.two .nil (.two (.two (.join [(6, .bool)] [129, 130, 131, 132, 133, 134, 135, 136, 137, 138, 139, 140, 141] false (.ord 6 [(0, 16382), (0, 16381), (2, 16377), (0, 16375), (8, 16359), (21, 16330), (0, 16319), (0, 16255), (128, 15999), (0, 15871), (512, 14847), (1376, 12991), (2080, 10207), (8191, 4095)] (.o 0 (.o 1 (.o 2 (.o 3 (.o 4 (.o 6 (.o 7 (.o 8 (.o 9 (.o 10 (.o 5 (.o 11 (.o 12 (.o 13 .done)))))))))))))))) .nil) (.two .nil (.two (.two (.join [(6, .bool)] [144, 145, 146, 147, 148, 149, 150, 151, 152, 153, 154, 155, 156] false (.ord 6 [(0, 16382), (0, 16381), (2, 16377), (0, 16375), (8, 16359), (21, 16330), (0, 16319), (0, 16255), (128, 15999), (0, 15871), (512, 14847), (1376, 12991), (2080, 10207), (8191, 4095)] (.o 0 (.o 1 (.o 2 (.o 3 (.o 4 (.o 6 (.o 7 (.o 8 (.o 9 (.o 10 (.o 5 (.o 11 (.o 12 (.o 13 .done)))))))))))))))) .nil) (.two .nil (.two (.two .nil (.two .nil (.two .nil .nil))) (.two .nil (.two (.two (.join [(6, .bool)] [183, 184, 185, 186, 187, 188, 189, 190, 191, 192, 193, 194, 195] false (.ord 6 [(0, 16382), (0, 16381), (2, 16377), (0, 16375), (8, 16359), (21, 16330), (0, 16319), (0, 16255), (128, 15999), (0, 15871), (512, 14847), (1376, 12991), (2080, 10207), (8191, 4095)] (.o 0 (.o 1 (.o 2 (.o 3 (.o 4 (.o 6 (.o 7 (.o 8 (.o 9 (.o 10 (.o 5 (.o 11 (.o 12 (.o 13 .done)))))))))))))))) .nil) (.two .nil (.two (.two (.join [(6, .bool)] [198, 199, 200, 201, 202, 203, 204, 205, 206] false (.ord 6 [(0, 1022), (0, 1021), (2, 1017), (5, 1010), (0, 1007), (0, 991), (32, 927), (88, 815), (136, 631), (511, 255)] (.o 0 (.o 1 (.o 2 (.o 4 (.o 5 (.o 6 (.o 3 (.o 7 (.o 8 (.o 9 .done)))))))))))) .nil) .nil)))))))))))))))))))))))))))) (.two .nil .nil)))
theorem Cf6_does_ok : Cf6_does.Ok := mkC_ok mixed tysOk zerosOk eqsOk ⟨Sf16_Fork, Sf17_Semaphore, Sf18_Wait, Sf19_Signal, Sf20_Terminate, Sf21_Yield, Sf22_At, Sf23_Tick, Sf24_Resume, Sf25_Fork, Sf26_Yield, Sf27_Semaphore, Sf28_Wait, Sf29_Signal, Sf30_Suspend, Sf31_Suspend, Sf32_Resume, Sf33_Terminate, Sf34_SetPriority, Sf35_SetPriority, Sf36_At, Sf37_Tick, Sf38_Listen, Sf39_Listen, Sf40_Event, Sf41_Event, Sf42_looks, trivial⟩ trivial
theorem Ef6_does (x : (Option Addr × (Option Addr × (Int × (Int × Int))))) : evF Cf6_does Tryz.f6 212 (.pair .ptr (.pair .ptr (.agg (.pair (.int .i64) (.pair (.int .i64) (.int .i64)))))) .bool Af6_does x = f6_does x.1 x.2.1 x.2.2 := by kernel_rfl
theorem Sf6_does : SoundF Tryz.prog 6 ⟨(.pair .ptr (.pair .ptr (.agg (.pair (.int .i64) (.pair (.int .i64) (.int .i64)))))), .bool, fun x => f6_does x.1 x.2.1 x.2.2⟩ :=
  soundF_of Cf6_does_ok Tryz.func6 (by kernel_rfl) (by kernel_rfl) Ef6_does
noncomputable def Cf10_State : Ctx := mkC Tryz.prog tys zeros eqs [(8, ⟨.ptr, (.int .i64), fun x => f8_Active x⟩), (49, ⟨(.pair .ptr (.int .i64)), .sl, fun x => f49_Waits x.1 x.2⟩), (50, ⟨(.pair .ptr (.int .i64)), .sl, fun x => f50_Queue x.1 x.2⟩), (51, ⟨.ptr, (.int .i64), fun x => f51_next x⟩)] []
/-- (*palaverpalaverref26.Sched).State -/
noncomputable def f10_State (x0 : Option Addr) : M Sl :=
  bnd (
  bnd (ordM 10 1 (regionIn 1 Tryz.f10)) fun (o2 : List Nat) =>
  bnd (drf x0) fun (p3 : Addr) =>
  bnd (ld (.int .i64) (Addr.add p3 0)) fun (v4 : Int) =>
  bnd (drf x0) fun (p5 : Addr) =>
  bnd (ld .sl (Addr.add p5 1)) fun (v6 : Sl) =>
  bnd (f8_Active x0) fun (r7 : Int) =>
  bnd (
  bnd (chk .sl (Addr.add p5 1) v6) fun _ =>
  bnd (chk (.int .i64) (Addr.add p3 0) v4) fun _ =>
  ret ()) fun _ =>
  bnd (runV Tryz.prog .sl (Instr.buildSlice 28 3 #[(0, .int .i64 v4), (1, .int .i64 r7), (2, .int .i64 (v6.len : Int))])) fun (v8 : Sl) =>
  bnd (
  bnd (chk .sl (Addr.add p5 1) v6) fun _ =>
  ret ()) fun _ =>
  ret v8) fun (s1 : Sl) =>
  loopM (fun (s9 : (Sl × Int)) =>
  bnd (drf x0) fun (p10 : Addr) =>
  bnd (ld .sl (Addr.add p10 1)) fun (v11 : Sl) =>
  cnd (decide (s9.2 < (v11.len : Int))) (
  bnd (
  bnd (ordM 10 5 (regionIn 5 Tryz.f10)) fun (o13 : List Nat) =>
  bnd (drf x0) fun (p14 : Addr) =>
  bnd (ld .sl (Addr.add p14 1)) fun (v15 : Sl) =>
  bnd (ix 4 v15 s9.2) fun (p16 : Addr) =>
  bnd (ld (.int .i64) (Addr.add p16 0)) fun (v17 : Int) =>
  bnd (drf x0) fun (p18 : Addr) =>
  bnd (ld .sl (Addr.add p18 1)) fun (v19 : Sl) =>
  bnd (ix 4 v19 s9.2) fun (p20 : Addr) =>
  bnd (ld (.int .u8) (Addr.add p20 1)) fun (v21 : Int) =>
  bnd (runV Tryz.prog .sl (Instr.buildSlice 28 2 #[(0, .int .i64 v17), (1, .int .i64 (IntKind.wrap .i64 v21))])) fun (v22 : Sl) =>
  bnd (
  bnd (chk (.int .u8) (Addr.add p20 1) v21) fun _ =>
  bnd (chk .sl (Addr.add p18 1) v19) fun _ =>
  bnd (chk .sl (Addr.add p14 1) v15) fun _ =>
  ret ()) fun _ =>
  bnd (runV Tryz.prog .sl (Builtin.append_ #[28, 28] 28 #[.slice s9.1.a s9.1.len s9.1.cap, .slice v22.a v22.len v22.cap])) fun (v23 : Sl) =>
  bnd (
  bnd (chk (.int .u8) (Addr.add p20 1) v21) fun _ =>
  bnd (chk .sl (Addr.add p18 1) v19) fun _ =>
  bnd (chk .sl (Addr.add p14 1) v15) fun _ =>
  ret ()) fun _ =>
  ret v23) fun (s12 : Sl) =>
  ret (Sum.inl (s12, (IntKind.wrap .i64 (s9.2 + (1 : Int)))))) (
  bnd (
  bnd (drf x0) fun (p24 : Addr) =>
  bnd (ld .sl (Addr.add p24 2)) fun (v25 : Sl) =>
  bnd (runV Tryz.prog .sl (Instr.buildSlice 28 1 #[(0, .int .i64 (v25.len : Int))])) fun (v26 : Sl) =>
  bnd (runV Tryz.prog .sl (Builtin.append_ #[28, 28] 28 #[.slice s9.1.a s9.1.len s9.1.cap, .slice v26.a v26.len v26.cap])) fun (v27 : Sl) =>
  loopM (fun (s28 : (Sl × Int)) =>
  bnd (drf x0) fun (p29 : Addr) =>
  bnd (ld .sl (Addr.add p29 2)) fun (v30 : Sl) =>
  cnd (decide (s28.2 < (v30.len : Int))) (
  bnd (f49_Waits x0 (IntKind.wrap .i64 (s28.2 + (1 : Int)))) fun (r31 : Sl) =>
  bnd (drf x0) fun (p32 : Addr) =>
  bnd (ld .sl (Addr.add p32 2)) fun (v33 : Sl) =>
  bnd (ix 1 v33 s28.2) fun (p34 : Addr) =>
  bnd (ld (.int .i64) p34) fun (v35 : Int) =>
  bnd (runV Tryz.prog .sl (Instr.buildSlice 28 2 #[(0, .int .i64 v35), (1, .int .i64 (r31.len : Int))])) fun (v36 : Sl) =>
  bnd (runV Tryz.prog .sl (Builtin.append_ #[28, 28] 28 #[.slice s28.1.a s28.1.len s28.1.cap, .slice v36.a v36.len v36.cap])) fun (v37 : Sl) =>
  bnd (runV Tryz.prog .sl (Builtin.append_ #[28, 28] 28 #[.slice v37.a v37.len v37.cap, .slice r31.a r31.len r31.cap])) fun (v38 : Sl) =>
  ret (Sum.inl (v38, (IntKind.wrap .i64 (s28.2 + (1 : Int)))))) (
  bnd (
  loopM (fun (s39 : (Sl × Int)) =>
  cnd (decide (s39.2 ≤ (16 : Int))) (
  bnd (f50_Queue x0 s39.2) fun (r40 : Sl) =>
  bnd (runV Tryz.prog .sl (Instr.buildSlice 28 1 #[(0, .int .i64 (r40.len : Int))])) fun (v41 : Sl) =>
  bnd (runV Tryz.prog .sl (Builtin.append_ #[28, 28] 28 #[.slice s39.1.a s39.1.len s39.1.cap, .slice v41.a v41.len v41.cap])) fun (v42 : Sl) =>
  bnd (runV Tryz.prog .sl (Builtin.append_ #[28, 28] 28 #[.slice v42.a v42.len v42.cap, .slice r40.a r40.len r40.cap])) fun (v43 : Sl) =>
  ret (Sum.inl (v43, (IntKind.wrap .i64 (s39.2 + (1 : Int)))))) (
  bnd (
  bnd (drf x0) fun (p44 : Addr) =>
  bnd (ld .sl (Addr.add p44 3)) fun (v45 : Sl) =>
  bnd (runV Tryz.prog .sl (Instr.buildSlice 28 1 #[(0, .int .i64 (v45.len : Int))])) fun (v46 : Sl) =>
  bnd (runV Tryz.prog .sl (Builtin.append_ #[28, 28] 28 #[.slice s39.1.a s39.1.len s39.1.cap, .slice v46.a v46.len v46.cap])) fun (v47 : Sl) =>
  bnd (newC 32 [.int .i64 (0 : Int), .slice none 0 0, .slice none 0 0, .slice none 0 0, .int .i64 (0 : Int), .int .i64 (0 : Int), .int .i64 (0 : Int), .int .i64 (0 : Int), .int .i64 (0 : Int), .int .i64 (0 : Int), .int .i64 (0 : Int), .int .i64 (0 : Int), .int .i64 (0 : Int), .int .i64 (0 : Int), .int .i64 (0 : Int), .int .i64 (0 : Int), .int .i64 (0 : Int), .int .i64 (0 : Int), .int .i64 (0 : Int), .int .i64 (0 : Int), .int .i64 (0 : Int), .int .i64 (0 : Int), .int .i64 (0 : Int), .int .i64 (0 : Int), .int .i64 (0 : Int), .int .i64 (0 : Int), .int .i64 (0 : Int), .int .i64 (0 : Int), .int .i64 (0 : Int), .int .i64 (0 : Int), .int .i64 (0 : Int), .int .i64 (0 : Int), .int .i64 (0 : Int), .int .i64 (0 : Int), .int .i64 (0 : Int), .int .i64 (0 : Int), .int .i64 (0 : Int), .int .i64 (0 : Int), .int .i64 (0 : Int), .int .i64 (0 : Int), .int .i64 (0 : Int), .int .i64 (0 : Int), .int .i64 (0 : Int), .int .i64 (0 : Int), .int .i64 (0 : Int), .int .i64 (0 : Int), .int .i64 (0 : Int), .int .i64 (0 : Int), .int .i64 (0 : Int), .int .i64 (0 : Int), .int .i64 (0 : Int), .int .i64 (0 : Int), .int .i64 (0 : Int), .int .i64 (0 : Int), .int .i64 (0 : Int), .int .i64 (0 : Int), .int .i64 (0 : Int), .int .i64 (0 : Int), .int .i64 (0 : Int), .int .i64 (0 : Int), .int .i64 (0 : Int), .int .i64 (0 : Int), .int .i64 (0 : Int), .int .i64 (0 : Int), .int .i64 (0 : Int), .int .i64 (0 : Int), .int .i64 (0 : Int), .int .i64 (0 : Int), .int .i64 (0 : Int), .int .i64 (0 : Int)]) fun (p48 : Addr) =>
  bnd (
  bnd (ordM 10 21 (regionIn 21 Tryz.f10)) fun (o50 : List Nat) =>
  bnd (ld .sl (Addr.add p48 3)) fun (v51 : Sl) =>
  bnd (drf x0) fun (p52 : Addr) =>
  bnd (ld .sl (Addr.add p52 3)) fun (v53 : Sl) =>
  bnd (runV Tryz.prog .sl (Builtin.append_ #[29, 29] 29 #[.slice v51.a v51.len v51.cap, .slice v53.a v53.len v53.cap])) fun (v54 : Sl) =>
  bnd (ret ()) fun _ =>
  bnd (wrs (Addr.add p48 3) 0 [.slice v54.a v54.len v54.cap]) fun _ =>
  bnd (ret ()) fun _ =>
  ret ()) fun (s49 : Unit) =>
  loopM (fun (s55 : Sl) =>
  bnd (ld .sl (Addr.add p48 3)) fun (v56 : Sl) =>
  cnd (decide ((v56.len : Int) > (0 : Int))) (
  bnd (f51_next (some p48)) fun (r57 : Int) =>
  bnd (
  bnd (ordM 10 24 (regionIn 24 Tryz.f10)) fun (o59 : List Nat) =>
  bnd (ld .sl (Addr.add p48 3)) fun (v60 : Sl) =>
  bnd (ix 3 v60 r57) fun (p61 : Addr) =>
  bnd (ld (.int .i64) (Addr.add p61 0)) fun (v62 : Int) =>
  bnd (ld .sl (Addr.add p48 3)) fun (v63 : Sl) =>
  bnd (ix 3 v63 r57) fun (p64 : Addr) =>
  bnd (ld (.int .i64) (Addr.add p64 1)) fun (v65 : Int) =>
  bnd (runV Tryz.prog .sl (Instr.buildSlice 28 2 #[(0, .int .i64 v62), (1, .int .i64 v65)])) fun (v66 : Sl) =>
  bnd (
  bnd (chk .sl (Addr.add p48 3) v63) fun _ =>
  bnd (chk .sl (Addr.add p48 3) v60) fun _ =>
  ret ()) fun _ =>
  bnd (runV Tryz.prog .sl (Builtin.append_ #[28, 28] 28 #[.slice s55.a s55.len s55.cap, .slice v66.a v66.len v66.cap])) fun (v67 : Sl) =>
  bnd (
  bnd (chk .sl (Addr.add p48 3) v63) fun _ =>
  bnd (chk .sl (Addr.add p48 3) v60) fun _ =>
  ret ()) fun _ =>
  ret v67) fun (s58 : Sl) =>
  bnd (ld .sl (Addr.add p48 3)) fun (v68 : Sl) =>
  bnd (slc 3 v68 none (some r57) none) fun (v69 : Sl) =>
  bnd (runV Tryz.prog .sl (Builtin.append_ #[29, 29] 29 #[.slice none 0 0, .slice v69.a v69.len v69.cap])) fun (v70 : Sl) =>
  bnd (ld .sl (Addr.add p48 3)) fun (v71 : Sl) =>
  bnd (slc 3 v71 (some (IntKind.wrap .i64 (r57 + (1 : Int)))) none none) fun (v72 : Sl) =>
  bnd (runV Tryz.prog .sl (Builtin.append_ #[29, 29] 29 #[.slice v70.a v70.len v70.cap, .slice v72.a v72.len v72.cap])) fun (v73 : Sl) =>
  bnd (wrs (Addr.add p48 3) 0 [.slice v73.a v73.len v73.cap]) fun _ =>
  ret (Sum.inl s58)) (
  bnd (
  loopM (fun (s74 : (Int × (Sl × Int))) =>
  cnd (decide (s74.2.2 < (64 : Int))) (
  bnd (drf x0) fun (p75 : Addr) =>
  bnd (ixA 64 1 (Addr.add p75 4) s74.2.2) fun (p76 : Addr) =>
  bnd (ld (.int .i64) p76) fun (v77 : Int) =>
  bnd (
  cnd (decide (v77 > (0 : Int))) (
  bnd (drf x0) fun (p79 : Addr) =>
  bnd (ixA 64 1 (Addr.add p79 4) s74.2.2) fun (p80 : Addr) =>
  bnd (ld (.int .i64) p80) fun (v81 : Int) =>
  bnd (runV Tryz.prog .sl (Instr.buildSlice 28 2 #[(0, .int .i64 s74.2.2), (1, .int .i64 v81)])) fun (v82 : Sl) =>
  bnd (runV Tryz.prog .sl (Builtin.append_ #[28, 28] 28 #[.slice s74.2.1.a s74.2.1.len s74.2.1.cap, .slice v82.a v82.len v82.cap])) fun (v83 : Sl) =>
  ret ((IntKind.wrap .i64 (s74.1 + (1 : Int))), v83)) (
  ret (s74.1, s74.2.1))) fun (s78 : (Int × Sl)) =>
  ret (Sum.inl (s78.1, s78.2, (IntKind.wrap .i64 (s74.2.2 + (1 : Int)))))) (
  bnd (
  bnd (runV Tryz.prog .sl (Instr.buildSlice 28 1 #[(0, .int .i64 s74.1)])) fun (v84 : Sl) =>
  bnd (runV Tryz.prog .sl (Builtin.append_ #[28, 28] 28 #[.slice s55.a s55.len s55.cap, .slice v84.a v84.len v84.cap])) fun (v85 : Sl) =>
  bnd (runV Tryz.prog .sl (Builtin.append_ #[28, 28] 28 #[.slice v85.a v85.len v85.cap, .slice s74.2.1.a s74.2.1.len s74.2.1.cap])) fun (v86 : Sl) =>
  ret v86) fun r87 =>
  ret (Sum.inr r87))) ((0 : Int), (Sl.mk none 0 0), (0 : Int))) fun r88 =>
  ret (Sum.inr r88))) v47) fun r89 =>
  ret (Sum.inr r89))) (s28.1, (1 : Int))) fun r90 =>
  ret (Sum.inr r90))) (v27, (0 : Int))) fun r91 =>
  ret (Sum.inr r91))) (s1, (0 : Int))
noncomputable def Af10_State : Ann := (.two .nil (.two (.join [(3, .sl)] [15, 16, 17, 18, 19, 20, 21, 22, 23, 24, 25, 26] false (.ord 10 [(0, 8190), (1, 8188), (2, 8185), (4, 8179), (0, 8175), (16, 8143), (0, 8127), (64, 7999), (128, 7807), (256, 7423), (512, 6655), (1064, 5079), (4095, 2047)] (.o 0 (.o 1 (.o 2 (.o 3 (.o 4 (.o 6 (.o 7 (.o 8 (.o 9 (.o 10 (.o 5 (.o 11 (.o 12 .done))))))))))))))) (.two (.two .nil (.one (.loop [(3, .sl), (4, (.int .i64))] [27, 28, 29, 30, 31, 32, 33, 34, 35, 36, 37, 38, 39, 40, 41, 42, 43, 44, 45, 46, 47, 48, 49, 50, 51, 52, 53, 54, 55] (.two (.two .nil (.two .nil .nil)) (.two (.one (.join [(3, .sl)] [36, 37, 38, 39, 40, 41, 42, 43, 44, 45, 46, 47, 48, 49, 50, 51, 52, 53, 54, 55] false (.ord 10 [(0, 2097150), (0, 2097149), (2, 2097145), (4, 2097139), (8, 2097127), (0, 2097119), (48, 2097039), (64, 2096959), (128, 2096767), (0, 2096639), (512, 2095615), (1024, 2094079), (2048, 2091007), (0, 2088959), (12288, 2068479), (16384, 2047999), (32768, 1998847), (65536, 1900543), (131328, 1703679), (262145, 1310718), (1048575, 524286)] (.o 0 (.o 1 (.o 2 (.o 3 (.o 4 (.o 5 (.o 6 (.o 7 (.o 8 (.o 9 (.o 10 (.o 11 (.o 12 (.o 13 (.o 14 (.o 15 (.o 16 (.o 17 (.o 18 (.o 19 (.o 20 .done)))))))))))))))))))))))) .nil))))) (.two .nil (.two (.two .nil (.one (.loop [(3, .sl), (5, (.int .i64))] [6, 64, 65, 66, 67, 68, 69, 70, 71, 72, 73, 74, 75, 76, 77, 78, 79, 80, 81, 82, 83, 84, 85, 86, 87, 88, 89, 90, 91] (.two (.two .nil (.two .nil .nil)) (.two (.one (.two .nil (.two .nil .nil))) .nil))))) (.two (.two .nil (.one (.loop [(3, .sl), (7, (.int .i64))] [8, 92, 93, 94, 95, 96, 97, 98, 99, 100, 101, 102, 103, 104, 105, 106] (.two (.two .nil (.two .nil .nil)) (.two (.one (.two .nil (.two .nil .nil))) .nil))))) (.two .nil (.two .nil (.two (.join [] [117, 118, 119, 120, 121, 122, 123, 124, 125, 126, 127, 128] false (.ord 10 [(0, 8190), (0, 8189), (2, 8185), (4, 8179), (8, 8167), (0, 8159), (32, 8095), (64, 7999), (128, 7807), (272, 7407), (1023, 7166), (2047, 5119), (3071, 1535)] (.o 0 (.o 1 (.o 2 (.o 3 (.o 4 (.o 5 (.o 6 (.o 7 (.o 8 (.o 9 (.o 10 (.o 11 (.o 12 .done))))))))))))))) (.two (.one (.loop [(3, .sl)] [10, 11, 129, 130, 131, 132, 133, 134, 135, 136, 137, 138, 139, 140, 141, 142, 143, 144, 145, 146, 147, 148, 149, 150, 151, 152, 153, 154, 155, 156, 157, 158, 159, 160, 161, 162, 163, 164, 165, 166, 167, 168, 169, 170, 171, 172, 173, 174, 175] (.two (.two .nil (.two .nil .nil)) (.one (.two .nil (.two (.join [(3, .sl)] [137, 138, 139, 140, 141, 142, 143, 144, 145, 146, 147, 148, 149, 150, 151, 152, 153, 154, 155] false (.ord 10 [(0, 1048574), (0, 1048573), (2, 1048569), (4, 1048563), (8, 1048551), (0, 1048543), (48, 1048463), (64, 1048383), (128, 1048191), (0, 1048063), (512, 1047039), (1024, 1045503), (2048, 1042431), (0, 1040383), (12288, 1019903), (16384, 999423), (32768, 950271), (65792, 851711), (131073, 655358), (524287, 262142)] (.o 0 (.o 1 (.o 2 (.o 3 (.o 4 (.o 5 (.o 6 (.o 7 (.o 8 (.o 9 (.o 10 (.o 11 (.o 12 (.o 13 (.o 14 (.o 15 (.o 16 (.o 17 (.o 18 (.o 19 .done)))))))))))))))))))))) (.two .nil (.two .nil .nil)))))))) (.two .nil (.two .nil (.two (.two .nil (.one (.loop [(12, (.int .i64)), (13, .sl), (14, (.int .i64))] [176, 177, 178, 179, 180, 181, 182, 183, 184, 185, 186, 187, 188, 189, 190, 191, 192, 193, 194, 195, 196, 197, 198] (.two (.two .nil (.two .nil .nil)) (.two (.one (.two .nil (.join [(12, (.int .i64)), (13, .sl)] [187, 188, 189, 190, 191, 192, 193, 194, 195, 196, 197, 198] false (.two (.two .nil .nil) .nil)))) .nil))))) (.two .nil (.two .nil .nil)))))))))))))))
theorem Cf10_State_ok : Cf10_State.Ok := mkC_ok mixed tysOk zerosOk eqsOk ⟨Sf8_Active, Sf49_Waits, Sf50_Queue, Sf51_next, trivial⟩ trivial
theorem Ef10_State (x : Option Addr) : evF Cf10_State Tryz.f10 206 .ptr .sl Af10_State x = f10_State x := by kernel_rfl
theorem Sf10_State : SoundF Tryz.prog 10 ⟨.ptr, .sl, fun x => f10_State x⟩ :=
  soundF_of Cf10_State_ok Tryz.func10 (by kernel_rfl) (by kernel_rfl) Ef10_State
noncomputable def Cf12_Book_Ints : Ctx := mkC Tryz.prog tys zeros eqs [] []
/-- (*palaverpalaverref00.Book).Ints -/
noncomputable def f12_Book_Ints (x0 : Option Addr) (x1 : Sl) : M Unit :=
  bnd (drf x0) fun (p1 : Addr) =>
  bnd (ld .sl (Addr.add p1 0)) fun (v2 : Sl) =>
  bnd (runV Tryz.prog .sl (Instr.buildSlice 40 1 #[(0, .slice x1.a x1.len x1.cap)])) fun (v3 : Sl) =>
  bnd (runV Tryz.prog .sl (Builtin.append_ #[40, 40] 40 #[.slice v2.a v2.len v2.cap, .slice v3.a v3.len v3.cap])) fun (v4 : Sl) =>
  bnd (drf x0) fun (p5 : Addr) =>
  bnd (wrs (Addr.add p5 0) 0 [.slice v4.a v4.len v4.cap]) fun _ =>
  ret ()
noncomputable def Af12_Book_Ints : Ann := .nil
theorem Cf12_Book_Ints_ok : Cf12_Book_Ints.Ok := mkC_ok mixed tysOk zerosOk eqsOk trivial trivial
theorem Ef12_Book_Ints (x : (Option Addr × Sl)) : evF Cf12_Book_Ints Tryz.f12 14 (.pair .ptr .sl) (.tup .unit) Af12_Book_Ints x = f12_Book_Ints x.1 x.2 := by kernel_rfl
theorem Sf12_Book_Ints : SoundF Tryz.prog 12 ⟨(.pair .ptr .sl), (.tup .unit), fun x => f12_Book_Ints x.1 x.2⟩ :=
  soundF_of Cf12_Book_Ints_ok Tryz.func12 (by kernel_rfl) (by kernel_rfl) Ef12_Book_Ints
noncomputable def Cf54_ownInts : Ctx := mkC Tryz.prog tys zeros eqs [] []
/-- palaverpalaverref00.ownInts -/
noncomputable def f54_ownInts (x0 : Sl) : M Bool :=
  loopM (fun (s1 : Int) =>
  cnd (decide (s1 < (x0.len : Int))) (
  loopM (fun (s2 : Int) =>
  bnd (ix 1 x0 s1) fun (p3 : Addr) =>
  bnd (ld .sl p3) fun (v4 : Sl) =>
  cnd (decide (s2 < (v4.len : Int))) (
  bnd (ix 1 x0 s1) fun (p5 : Addr) =>
  bnd (ld .sl p5) fun (v6 : Sl) =>
  bnd (ix 1 v6 s2) fun (p7 : Addr) =>
  bnd (wrs p7 0 [.int .i64 (IntKind.wrap .i64 ((IntKind.wrap .i64 (s1 * (1000 : Int))) + s2))]) fun _ =>
  ret (Sum.inl (IntKind.wrap .i64 (s2 + (1 : Int))))) (
  ret (Sum.inr (Sum.inl (IntKind.wrap .i64 (s1 + (1 : Int))))))) (0 : Int)) (
  bnd (
  loopM (fun (s8 : (Sl × Int)) =>
  cnd (decide (s8.2 < (x0.len : Int))) (
  bnd (ix 1 x0 s8.2) fun (p9 : Addr) =>
  bnd (ld .sl p9) fun (v10 : Sl) =>
  loopM (fun (s11 : (Sl × Int)) =>
  cnd (decide (s11.2 < (16 : Int))) (
  bnd (runV Tryz.prog .sl (Instr.buildSlice 28 1 #[(0, .int .i64 (IntKind.wrap .i64 ((IntKind.wrap .i64 ((IntKind.wrap .i64 ((-1 : Int) - s8.2)) * (1000 : Int))) - s11.2)))])) fun (v12 : Sl) =>
  bnd (runV Tryz.prog .sl (Builtin.append_ #[28, 28] 28 #[.slice s11.1.a s11.1.len s11.1.cap, .slice v12.a v12.len v12.cap])) fun (v13 : Sl) =>
  ret (Sum.inl (v13, (IntKind.wrap .i64 (s11.2 + (1 : Int)))))) (
  bnd (
  bnd (runV Tryz.prog .sl (Instr.buildSlice 40 1 #[(0, .slice s11.1.a s11.1.len s11.1.cap)])) fun (v14 : Sl) =>
  bnd (runV Tryz.prog .sl (Builtin.append_ #[40, 40] 40 #[.slice s8.1.a s8.1.len s8.1.cap, .slice v14.a v14.len v14.cap])) fun (v15 : Sl) =>
  ret (Sum.inl (v15, (IntKind.wrap .i64 (s8.2 + (1 : Int)))))) fun r16 =>
  ret (Sum.inr r16))) (v10, (0 : Int))) (
  bnd (
  loopM (fun (s17 : Int) =>
  cnd (decide (s17 < (x0.len : Int))) (
  bnd (ix 1 x0 s17) fun (p18 : Addr) =>
  bnd (ld .sl p18) fun (v19 : Sl) =>
  loopM (fun (s20 : Int) =>
  cnd (decide (s20 < (v19.len : Int))) (
  bnd (ix 1 x0 s17) fun (p21 : Addr) =>
  bnd (ld .sl p21) fun (v22 : Sl) =>
  bnd (ix 1 v22 s20) fun (p23 : Addr) =>
  bnd (ld (.int .i64) p23) fun (v24 : Int) =>
  bnd (
  cnd (v24 != (IntKind.wrap .i64 ((IntKind.wrap .i64 (s17 * (1000 : Int))) + s20))) (
  ret true) (
  bnd (ix 1 s8.1 s17) fun (p25 : Addr) =>
  bnd (ld .sl p25) fun (v26 : Sl) =>
  bnd (ix 1 v26 s20) fun (p27 : Addr) =>
  bnd (ld (.int .i64) p27) fun (v28 : Int) =>
  ret (v28 != (IntKind.wrap .i64 ((IntKind.wrap .i64 (s17 * (1000 : Int))) + s20))))) fun (b29 : Bool) =>
  cnd b29 (
  ret (Sum.inr (Sum.inr false))) (
  ret (Sum.inl (IntKind.wrap .i64 (s20 + (1 : Int)))))) (
  bnd (
  loopM (fun (s30 : Int) =>
  cnd (decide (s30 < (16 : Int))) (
  bnd (ix 1 s8.1 s17) fun (p31 : Addr) =>
  bnd (ld .sl p31) fun (v32 : Sl) =>
  bnd (ix 1 v32 (IntKind.wrap .i64 ((v19.len : Int) + s30))) fun (p33 : Addr) =>
  bnd (ld (.int .i64) p33) fun (v34 : Int) =>
  cnd (v34 != (IntKind.wrap .i64 ((IntKind.wrap .i64 ((IntKind.wrap .i64 ((-1 : Int) - s17)) * (1000 : Int))) - s30))) (
  ret (Sum.inr (Sum.inr false))) (
  ret (Sum.inl (IntKind.wrap .i64 (s30 + (1 : Int)))))) (
  ret (Sum.inr (Sum.inl (IntKind.wrap .i64 (s17 + (1 : Int))))))) (0 : Int)) fun r35 =>
  ret (Sum.inr r35))) (0 : Int)) (
  ret (Sum.inr true))) (0 : Int)) fun r36 =>
  ret (Sum.inr r36))) ((Sl.mk none 0 0), (0 : Int))) fun r37 =>
  ret (Sum.inr r37))) (0 : Int)
noncomputable def Af54_ownInts : Ann := (.two .nil (.two (.two .nil (.one (.loop [(3, (.int .i64))] [4, 13, 14, 15, 16, 17, 18, 19, 20, 21, 22, 23, 24, 25, 26, 27, 28, 29, 30, 31, 32, 33, 34, 35, 36, 37] (.two (.two .nil (.two .nil .nil)) (.two (.one (.two .nil (.one (.loop [(4, (.int .i64))] [19, 20, 21, 22, 23, 24, 25, 26, 27, 28, 29, 30, 31, 32, 33, 34, 35, 36, 37] (.two (.two .nil (.two .nil .nil)) (.two (.one .nil) .nil)))))) .nil))))) (.two .nil (.two (.two .nil (.one (.loop [(5, .sl), (6, (.int .i64))] [7, 8, 38, 39, 40, 41, 42, 43, 44, 45, 46, 47, 48, 49, 50, 51, 52, 53, 54, 55, 56, 57, 58, 59, 60, 61, 62, 63] (.two (.two .nil (.two .nil .nil)) (.two (.one (.two .nil (.two (.two .nil (.one (.loop [(7, .sl), (8, (.int .i64))] [48, 49, 50, 51, 52, 53, 54, 55, 56, 57, 58, 59] (.two (.two .nil (.two .nil .nil)) (.two (.one .nil) .nil))))) .nil))) .nil))))) (.two (.two .nil (.one (.loop [(9, (.int .i64))] [2, 10, 11, 12, 64, 65, 66, 67, 68, 69, 70, 71, 72, 73, 74, 75, 76, 77, 78, 79, 80, 81, 82, 83, 84, 85, 86, 87, 88, 89, 90, 91, 92, 93, 94, 95, 96, 97, 98, 99, 100, 101, 102, 103, 104, 105, 106, 107, 108, 109, 110, 111, 112, 113, 114, 115, 116, 117, 118, 119, 120, 121, 122, 123, 124] (.two (.two .nil (.two .nil .nil)) (.two (.one (.two .nil (.two (.two .nil (.one (.loop [(11, (.int .i64))] [2, 75, 76, 77, 78, 79, 80, 81, 82, 83, 84, 85, 86, 87, 88, 89, 90, 91, 92, 93, 94, 95, 96, 97, 98, 99, 100, 101, 102, 103, 104, 105] (.two (.two .nil (.two .nil .nil)) (.two (.one (.two .nil (.two (.two .nil .nil) .nil))) .nil))))) (.two .nil (.one (.loop [(12, (.int .i64))] [2, 106, 107, 108, 109, 110, 111, 112, 113, 114, 115, 116, 117, 118, 119, 120, 121, 122, 123, 124] (.two (.two .nil (.two .nil .nil)) (.two (.one (.two .nil (.two (.two .nil .nil) .nil))) .nil)))))))) .nil))))) (.two .nil .nil))))))
theorem Cf54_ownInts_ok : Cf54_ownInts.Ok := mkC_ok mixed tysOk zerosOk eqsOk trivial trivial
theorem Ef54_ownInts (x : Sl) : evF Cf54_ownInts Tryz.f54 125 .sl .bool Af54_ownInts x = f54_ownInts x := by kernel_rfl
theorem Sf54_ownInts : SoundF Tryz.prog 54 ⟨.sl, .bool, fun x => f54_ownInts x⟩ :=
  soundF_of Cf54_ownInts_ok Tryz.func54 (by kernel_rfl) (by kernel_rfl) Ef54_ownInts
noncomputable def Cf55_ownNumbers : Ctx := mkC Tryz.prog tys zeros eqs [] []
/-- palaverpalaverref00.ownNumbers -/
noncomputable def f55_ownNumbers (x0 : Sl) : M Bool :=
  loopM (fun (s1 : Int) =>
  cnd (decide (s1 < (x0.len : Int))) (
  loopM (fun (s2 : Int) =>
  bnd (ix 1 x0 s1) fun (p3 : Addr) =>
  bnd (ld .sl p3) fun (v4 : Sl) =>
  cnd (decide (s2 < (v4.len : Int))) (
  bnd (ix 1 x0 s1) fun (p5 : Addr) =>
  bnd (ld .sl p5) fun (v6 : Sl) =>
  bnd (ix 1 v6 s2) fun (p7 : Addr) =>
  bnd (wrs p7 0 [.int .u64 (IntKind.wrap .u64 (IntKind.wrap .i64 ((IntKind.wrap .i64 ((IntKind.wrap .i64 (s1 * (1000 : Int))) + s2)) + (9000000 : Int))))]) fun _ =>
  ret (Sum.inl (IntKind.wrap .i64 (s2 + (1 : Int))))) (
  ret (Sum.inr (Sum.inl (IntKind.wrap .i64 (s1 + (1 : Int))))))) (0 : Int)) (
  bnd (
  loopM (fun (s8 : (Sl × Int)) =>
  cnd (decide (s8.2 < (x0.len : Int))) (
  bnd (ix 1 x0 s8.2) fun (p9 : Addr) =>
  bnd (ld .sl p9) fun (v10 : Sl) =>
  loopM (fun (s11 : (Sl × Int)) =>
  cnd (decide (s11.2 < (16 : Int))) (
  bnd (runV Tryz.prog .sl (Instr.buildSlice 113 1 #[(0, .int .u64 (IntKind.wrap .u64 (IntKind.wrap .i64 ((IntKind.wrap .i64 ((IntKind.wrap .i64 ((IntKind.wrap .i64 ((-1 : Int) - s8.2)) * (1000 : Int))) - s11.2)) + (9000000 : Int)))))])) fun (v12 : Sl) =>
  bnd (runV Tryz.prog .sl (Builtin.append_ #[113, 113] 113 #[.slice s11.1.a s11.1.len s11.1.cap, .slice v12.a v12.len v12.cap])) fun (v13 : Sl) =>
  ret (Sum.inl (v13, (IntKind.wrap .i64 (s11.2 + (1 : Int)))))) (
  bnd (
  bnd (runV Tryz.prog .sl (Instr.buildSlice 41 1 #[(0, .slice s11.1.a s11.1.len s11.1.cap)])) fun (v14 : Sl) =>
  bnd (runV Tryz.prog .sl (Builtin.append_ #[41, 41] 41 #[.slice s8.1.a s8.1.len s8.1.cap, .slice v14.a v14.len v14.cap])) fun (v15 : Sl) =>
  ret (Sum.inl (v15, (IntKind.wrap .i64 (s8.2 + (1 : Int)))))) fun r16 =>
  ret (Sum.inr r16))) (v10, (0 : Int))) (
  bnd (
  loopM (fun (s17 : Int) =>
  cnd (decide (s17 < (x0.len : Int))) (
  bnd (ix 1 x0 s17) fun (p18 : Addr) =>
  bnd (ld .sl p18) fun (v19 : Sl) =>
  loopM (fun (s20 : Int) =>
  cnd (decide (s20 < (v19.len : Int))) (
  bnd (ix 1 x0 s17) fun (p21 : Addr) =>
  bnd (ld .sl p21) fun (v22 : Sl) =>
  bnd (ix 1 v22 s20) fun (p23 : Addr) =>
  bnd (ld (.int .u64) p23) fun (v24 : Int) =>
  bnd (
  cnd (v24 != (IntKind.wrap .u64 (IntKind.wrap .i64 ((IntKind.wrap .i64 ((IntKind.wrap .i64 (s17 * (1000 : Int))) + s20)) + (9000000 : Int))))) (
  ret true) (
  bnd (ix 1 s8.1 s17) fun (p25 : Addr) =>
  bnd (ld .sl p25) fun (v26 : Sl) =>
  bnd (ix 1 v26 s20) fun (p27 : Addr) =>
  bnd (ld (.int .u64) p27) fun (v28 : Int) =>
  ret (v28 != (IntKind.wrap .u64 (IntKind.wrap .i64 ((IntKind.wrap .i64 ((IntKind.wrap .i64 (s17 * (1000 : Int))) + s20)) + (9000000 : Int))))))) fun (b29 : Bool) =>
  cnd b29 (
  ret (Sum.inr (Sum.inr false))) (
  ret (Sum.inl (IntKind.wrap .i64 (s20 + (1 : Int)))))) (
  bnd (
  loopM (fun (s30 : Int) =>
  cnd (decide (s30 < (16 : Int))) (
  bnd (ix 1 s8.1 s17) fun (p31 : Addr) =>
  bnd (ld .sl p31) fun (v32 : Sl) =>
  bnd (ix 1 v32 (IntKind.wrap .i64 ((v19.len : Int) + s30))) fun (p33 : Addr) =>
  bnd (ld (.int .u64) p33) fun (v34 : Int) =>
  cnd (v34 != (IntKind.wrap .u64 (IntKind.wrap .i64 ((IntKind.wrap .i64 ((IntKind.wrap .i64 ((IntKind.wrap .i64 ((-1 : Int) - s17)) * (1000 : Int))) - s30)) + (9000000 : Int))))) (
  ret (Sum.inr (Sum.inr false))) (
  ret (Sum.inl (IntKind.wrap .i64 (s30 + (1 : Int)))))) (
  ret (Sum.inr (Sum.inl (IntKind.wrap .i64 (s17 + (1 : Int))))))) (0 : Int)) fun r35 =>
  ret (Sum.inr r35))) (0 : Int)) (
  ret (Sum.inr true))) (0 : Int)) fun r36 =>
  ret (Sum.inr r36))) ((Sl.mk none 0 0), (0 : Int))) fun r37 =>
  ret (Sum.inr r37))) (0 : Int)
noncomputable def Af55_ownNumbers : Ann := (.two .nil (.two (.two .nil (.one (.loop [(3, (.int .i64))] [4, 13, 14, 15, 16, 17, 18, 19, 20, 21, 22, 23, 24, 25, 26, 27, 28, 29, 30, 31, 32, 33, 34, 35, 36, 37, 38, 39] (.two (.two .nil (.two .nil .nil)) (.two (.one (.two .nil (.one (.loop [(4, (.int .i64))] [19, 20, 21, 22, 23, 24, 25, 26, 27, 28, 29, 30, 31, 32, 33, 34, 35, 36, 37, 38, 39] (.two (.two .nil (.two .nil .nil)) (.two (.one .nil) .nil)))))) .nil))))) (.two .nil (.two (.two .nil (.one (.loop [(5, .sl), (6, (.int .i64))] [7, 8, 40, 41, 42, 43, 44, 45, 46, 47, 48, 49, 50, 51, 52, 53, 54, 55, 56, 57, 58, 59, 60, 61, 62, 63, 64, 65, 66, 67] (.two (.two .nil (.two .nil .nil)) (.two (.one (.two .nil (.two (.two .nil (.one (.loop [(7, .sl), (8, (.int .i64))] [50, 51, 52, 53, 54, 55, 56, 57, 58, 59, 60, 61, 62, 63] (.two (.two .nil (.two .nil .nil)) (.two (.one .nil) .nil))))) .nil))) .nil))))) (.two (.two .nil (.one (.loop [(9, (.int .i64))] [2, 10, 11, 12, 68, 69, 70, 71, 72, 73, 74, 75, 76, 77, 78, 79, 80, 81, 82, 83, 84, 85, 86, 87, 88, 89, 90, 91, 92, 93, 94, 95, 96, 97, 98, 99, 100, 101, 102, 103, 104, 105, 106, 107, 108, 109, 110, 111, 112, 113, 114, 115, 116, 117, 118, 119, 120, 121, 122, 123, 124, 125, 126, 127, 128, 129, 130, 131, 132, 133, 134] (.two (.two .nil (.two .nil .nil)) (.two (.one (.two .nil (.two (.two .nil (.one (.loop [(11, (.int .i64))] [2, 79, 80, 81, 82, 83, 84, 85, 86, 87, 88, 89, 90, 91, 92, 93, 94, 95, 96, 97, 98, 99, 100, 101, 102, 103, 104, 105, 106, 107, 108, 109, 110, 111, 112, 113] (.two (.two .nil (.two .nil .nil)) (.two (.one (.two .nil (.two (.two .nil .nil) .nil))) .nil))))) (.two .nil (.one (.loop [(12, (.int .i64))] [2, 114, 115, 116, 117, 118, 119, 120, 121, 122, 123, 124, 125, 126, 127, 128, 129, 130, 131, 132, 133, 134] (.two (.two .nil (.two .nil .nil)) (.two (.one (.two .nil (.two (.two .nil .nil) .nil))) .nil)))))))) .nil))))) (.two .nil .nil))))))
theorem Cf55_ownNumbers_ok : Cf55_ownNumbers.Ok := mkC_ok mixed tysOk zerosOk eqsOk trivial trivial
theorem Ef55_ownNumbers (x : Sl) : evF Cf55_ownNumbers Tryz.f55 135 .sl .bool Af55_ownNumbers x = f55_ownNumbers x := by kernel_rfl
theorem Sf55_ownNumbers : SoundF Tryz.prog 55 ⟨.sl, .bool, fun x => f55_ownNumbers x⟩ :=
  soundF_of Cf55_ownNumbers_ok Tryz.func55 (by kernel_rfl) (by kernel_rfl) Ef55_ownNumbers
noncomputable def Cf56_ownOops : Ctx := mkC Tryz.prog tys zeros eqs [] []
/-- palaverpalaverref00.ownOops -/
noncomputable def f56_ownOops (x0 : Sl) : M Bool :=
  loopM (fun (s1 : Int) =>
  cnd (decide (s1 < (x0.len : Int))) (
  loopM (fun (s2 : Int) =>
  bnd (ix 1 x0 s1) fun (p3 : Addr) =>
  bnd (ld .sl p3) fun (v4 : Sl) =>
  cnd (decide (s2 < (v4.len : Int))) (
  bnd (ix 1 x0 s1) fun (p5 : Addr) =>
  bnd (ld .sl p5) fun (v6 : Sl) =>
  bnd (ix 1 v6 s2) fun (p7 : Addr) =>
  bnd (wrs p7 0 [.int .u64 (IntKind.wrap .u64 (IntKind.wrap .i64 ((IntKind.wrap .i64 ((IntKind.wrap .i64 (s1 * (1000 : Int))) + s2)) + (9000000 : Int))))]) fun _ =>
  ret (Sum.inl (IntKind.wrap .i64 (s2 + (1 : Int))))) (
  ret (Sum.inr (Sum.inl (IntKind.wrap .i64 (s1 + (1 : Int))))))) (0 : Int)) (
  bnd (
  loopM (fun (s8 : (Sl × Int)) =>
  cnd (decide (s8.2 < (x0.len : Int))) (
  bnd (ix 1 x0 s8.2) fun (p9 : Addr) =>
  bnd (ld .sl p9) fun (v10 : Sl) =>
  loopM (fun (s11 : (Sl × Int)) =>
  cnd (decide (s11.2 < (16 : Int))) (
  bnd (runV Tryz.prog .sl (Instr.buildSlice 115 1 #[(0, .int .u64 (IntKind.wrap .u64 (IntKind.wrap .i64 ((IntKind.wrap .i64 ((IntKind.wrap .i64 ((IntKind.wrap .i64 ((-1 : Int) - s8.2)) * (1000 : Int))) - s11.2)) + (9000000 : Int)))))])) fun (v12 : Sl) =>
  bnd (runV Tryz.prog .sl (Builtin.append_ #[115, 115] 115 #[.slice s11.1.a s11.1.len s11.1.cap, .slice v12.a v12.len v12.cap])) fun (v13 : Sl) =>
  ret (Sum.inl (v13, (IntKind.wrap .i64 (s11.2 + (1 : Int)))))) (
  bnd (
  bnd (runV Tryz.prog .sl (Instr.buildSlice 42 1 #[(0, .slice s11.1.a s11.1.len s11.1.cap)])) fun (v14 : Sl) =>
  bnd (runV Tryz.prog .sl (Builtin.append_ #[42, 42] 42 #[.slice s8.1.a s8.1.len s8.1.cap, .slice v14.a v14.len v14.cap])) fun (v15 : Sl) =>
  ret (Sum.inl (v15, (IntKind.wrap .i64 (s8.2 + (1 : Int)))))) fun r16 =>
  ret (Sum.inr r16))) (v10, (0 : Int))) (
  bnd (
  loopM (fun (s17 : Int) =>
  cnd (decide (s17 < (x0.len : Int))) (
  bnd (ix 1 x0 s17) fun (p18 : Addr) =>
  bnd (ld .sl p18) fun (v19 : Sl) =>
  loopM (fun (s20 : Int) =>
  cnd (decide (s20 < (v19.len : Int))) (
  bnd (ix 1 x0 s17) fun (p21 : Addr) =>
  bnd (ld .sl p21) fun (v22 : Sl) =>
  bnd (ix 1 v22 s20) fun (p23 : Addr) =>
  bnd (ld (.int .u64) p23) fun (v24 : Int) =>
  bnd (
  cnd (v24 != (IntKind.wrap .u64 (IntKind.wrap .i64 ((IntKind.wrap .i64 ((IntKind.wrap .i64 (s17 * (1000 : Int))) + s20)) + (9000000 : Int))))) (
  ret true) (
  bnd (ix 1 s8.1 s17) fun (p25 : Addr) =>
  bnd (ld .sl p25) fun (v26 : Sl) =>
  bnd (ix 1 v26 s20) fun (p27 : Addr) =>
  bnd (ld (.int .u64) p27) fun (v28 : Int) =>
  ret (v28 != (IntKind.wrap .u64 (IntKind.wrap .i64 ((IntKind.wrap .i64 ((IntKind.wrap .i64 (s17 * (1000 : Int))) + s20)) + (9000000 : Int))))))) fun (b29 : Bool) =>
  cnd b29 (
  ret (Sum.inr (Sum.inr false))) (
  ret (Sum.inl (IntKind.wrap .i64 (s20 + (1 : Int)))))) (
  bnd (
  loopM (fun (s30 : Int) =>
  cnd (decide (s30 < (16 : Int))) (
  bnd (ix 1 s8.1 s17) fun (p31 : Addr) =>
  bnd (ld .sl p31) fun (v32 : Sl) =>
  bnd (ix 1 v32 (IntKind.wrap .i64 ((v19.len : Int) + s30))) fun (p33 : Addr) =>
  bnd (ld (.int .u64) p33) fun (v34 : Int) =>
  cnd (v34 != (IntKind.wrap .u64 (IntKind.wrap .i64 ((IntKind.wrap .i64 ((IntKind.wrap .i64 ((IntKind.wrap .i64 ((-1 : Int) - s17)) * (1000 : Int))) - s30)) + (9000000 : Int))))) (
  ret (Sum.inr (Sum.inr false))) (
  ret (Sum.inl (IntKind.wrap .i64 (s30 + (1 : Int)))))) (
  ret (Sum.inr (Sum.inl (IntKind.wrap .i64 (s17 + (1 : Int))))))) (0 : Int)) fun r35 =>
  ret (Sum.inr r35))) (0 : Int)) (
  ret (Sum.inr true))) (0 : Int)) fun r36 =>
  ret (Sum.inr r36))) ((Sl.mk none 0 0), (0 : Int))) fun r37 =>
  ret (Sum.inr r37))) (0 : Int)
noncomputable def Af56_ownOops : Ann := (.two .nil (.two (.two .nil (.one (.loop [(3, (.int .i64))] [4, 13, 14, 15, 16, 17, 18, 19, 20, 21, 22, 23, 24, 25, 26, 27, 28, 29, 30, 31, 32, 33, 34, 35, 36, 37, 38, 39] (.two (.two .nil (.two .nil .nil)) (.two (.one (.two .nil (.one (.loop [(4, (.int .i64))] [19, 20, 21, 22, 23, 24, 25, 26, 27, 28, 29, 30, 31, 32, 33, 34, 35, 36, 37, 38, 39] (.two (.two .nil (.two .nil .nil)) (.two (.one .nil) .nil)))))) .nil))))) (.two .nil (.two (.two .nil (.one (.loop [(5, .sl), (6, (.int .i64))] [7, 8, 40, 41, 42, 43, 44, 45, 46, 47, 48, 49, 50, 51, 52, 53, 54, 55, 56, 57, 58, 59, 60, 61, 62, 63, 64, 65, 66, 67] (.two (.two .nil (.two .nil .nil)) (.two (.one (.two .nil (.two (.two .nil (.one (.loop [(7, .sl), (8, (.int .i64))] [50, 51, 52, 53, 54, 55, 56, 57, 58, 59, 60, 61, 62, 63] (.two (.two .nil (.two .nil .nil)) (.two (.one .nil) .nil))))) .nil))) .nil))))) (.two (.two .nil (.one (.loop [(9, (.int .i64))] [2, 10, 11, 12, 68, 69, 70, 71, 72, 73, 74, 75, 76, 77, 78, 79, 80, 81, 82, 83, 84, 85, 86, 87, 88, 89, 90, 91, 92, 93, 94, 95, 96, 97, 98, 99, 100, 101, 102, 103, 104, 105, 106, 107, 108, 109, 110, 111, 112, 113, 114, 115, 116, 117, 118, 119, 120, 121, 122, 123, 124, 125, 126, 127, 128, 129, 130, 131, 132, 133, 134] (.two (.two .nil (.two .nil .nil)) (.two (.one (.two .nil (.two (.two .nil (.one (.loop [(11, (.int .i64))] [2, 79, 80, 81, 82, 83, 84, 85, 86, 87, 88, 89, 90, 91, 92, 93, 94, 95, 96, 97, 98, 99, 100, 101, 102, 103, 104, 105, 106, 107, 108, 109, 110, 111, 112, 113] (.two (.two .nil (.two .nil .nil)) (.two (.one (.two .nil (.two (.two .nil .nil) .nil))) .nil))))) (.two .nil (.one (.loop [(12, (.int .i64))] [2, 114, 115, 116, 117, 118, 119, 120, 121, 122, 123, 124, 125, 126, 127, 128, 129, 130, 131, 132, 133, 134] (.two (.two .nil (.two .nil .nil)) (.two (.one (.two .nil (.two (.two .nil .nil) .nil))) .nil)))))))) .nil))))) (.two .nil .nil))))))
theorem Cf56_ownOops_ok : Cf56_ownOops.Ok := mkC_ok mixed tysOk zerosOk eqsOk trivial trivial
theorem Ef56_ownOops (x : Sl) : evF Cf56_ownOops Tryz.f56 135 .sl .bool Af56_ownOops x = f56_ownOops x := by kernel_rfl
theorem Sf56_ownOops : SoundF Tryz.prog 56 ⟨.sl, .bool, fun x => f56_ownOops x⟩ :=
  soundF_of Cf56_ownOops_ok Tryz.func56 (by kernel_rfl) (by kernel_rfl) Ef56_ownOops
noncomputable def Cf57_ownDeeds : Ctx := mkC Tryz.prog tys zeros eqs [] []
/-- palaverpalaverref00.ownDeeds -/
noncomputable def f57_ownDeeds (x0 : Sl) : M Bool :=
  loopM (fun (s1 : Int) =>
  cnd (decide (s1 < (x0.len : Int))) (
  loopM (fun (s2 : Int) =>
  bnd (ix 1 x0 s1) fun (p3 : Addr) =>
  bnd (ld .sl p3) fun (v4 : Sl) =>
  cnd (decide (s2 < (v4.len : Int))) (
  bnd (ix 1 x0 s1) fun (p5 : Addr) =>
  bnd (ld .sl p5) fun (v6 : Sl) =>
  bnd (ix 6 v6 s2) fun (p7 : Addr) =>
  bnd (wrs p7 0 [.int .u8 (0 : Int), .int .i64 (IntKind.wrap .i64 ((IntKind.wrap .i64 (s1 * (1000 : Int))) + s2)), .string (ByteArray.mk #[]), .string (ByteArray.mk #[]), .int .i64 (0 : Int), .int .i64 (0 : Int)]) fun _ =>
  ret (Sum.inl (IntKind.wrap .i64 (s2 + (1 : Int))))) (
  ret (Sum.inr (Sum.inl (IntKind.wrap .i64 (s1 + (1 : Int))))))) (0 : Int)) (
  bnd (
  loopM (fun (s8 : (Sl × Int)) =>
  cnd (decide (s8.2 < (x0.len : Int))) (
  bnd (ix 1 x0 s8.2) fun (p9 : Addr) =>
  bnd (ld .sl p9) fun (v10 : Sl) =>
  loopM (fun (s11 : (Sl × Int)) =>
  cnd (decide (s11.2 < (16 : Int))) (
  bnd (runV Tryz.prog .sl (Instr.buildSlice 117 1 #[(0, .agg #[.int .u8 (0 : Int), .int .i64 (IntKind.wrap .i64 ((IntKind.wrap .i64 ((IntKind.wrap .i64 ((-1 : Int) - s8.2)) * (1000 : Int))) - s11.2)), .string (ByteArray.mk #[]), .string (ByteArray.mk #[]), .int .i64 (0 : Int), .int .i64 (0 : Int)])])) fun (v12 : Sl) =>
  bnd (runV Tryz.prog .sl (Builtin.append_ #[117, 117] 117 #[.slice s11.1.a s11.1.len s11.1.cap, .slice v12.a v12.len v12.cap])) fun (v13 : Sl) =>
  ret (Sum.inl (v13, (IntKind.wrap .i64 (s11.2 + (1 : Int)))))) (
  bnd (
  bnd (runV Tryz.prog .sl (Instr.buildSlice 43 1 #[(0, .slice s11.1.a s11.1.len s11.1.cap)])) fun (v14 : Sl) =>
  bnd (runV Tryz.prog .sl (Builtin.append_ #[43, 43] 43 #[.slice s8.1.a s8.1.len s8.1.cap, .slice v14.a v14.len v14.cap])) fun (v15 : Sl) =>
  ret (Sum.inl (v15, (IntKind.wrap .i64 (s8.2 + (1 : Int)))))) fun r16 =>
  ret (Sum.inr r16))) (v10, (0 : Int))) (
  bnd (
  loopM (fun (s17 : Int) =>
  cnd (decide (s17 < (x0.len : Int))) (
  bnd (ix 1 x0 s17) fun (p18 : Addr) =>
  bnd (ld .sl p18) fun (v19 : Sl) =>
  loopM (fun (s20 : Int) =>
  cnd (decide (s20 < (v19.len : Int))) (
  bnd (ix 1 x0 s17) fun (p21 : Addr) =>
  bnd (ld .sl p21) fun (v22 : Sl) =>
  bnd (ix 6 v22 s20) fun (p23 : Addr) =>
  bnd (ld (.agg (.pair (.int .u8) (.pair (.int .i64) (.pair .str (.pair .str (.pair (.int .i64) (.int .i64))))))) p23) fun (v24 : (Int × (Int × (ByteArray × (ByteArray × (Int × Int)))))) =>
  bnd (
  cnd (!((v24.1 == (0 : Int)) && ((v24.2.1 == (IntKind.wrap .i64 ((IntKind.wrap .i64 (s17 * (1000 : Int))) + s20))) && ((strEq v24.2.2.1 (ByteArray.mk #[])) && ((strEq v24.2.2.2.1 (ByteArray.mk #[])) && ((v24.2.2.2.2.1 == (0 : Int)) && (v24.2.2.2.2.2 == (0 : Int)))))))) (
  ret true) (
  bnd (ix 1 s8.1 s17) fun (p25 : Addr) =>
  bnd (ld .sl p25) fun (v26 : Sl) =>
  bnd (ix 6 v26 s20) fun (p27 : Addr) =>
  bnd (ld (.agg (.pair (.int .u8) (.pair (.int .i64) (.pair .str (.pair .str (.pair (.int .i64) (.int .i64))))))) p27) fun (v28 : (Int × (Int × (ByteArray × (ByteArray × (Int × Int)))))) =>
  ret (!((v28.1 == (0 : Int)) && ((v28.2.1 == (IntKind.wrap .i64 ((IntKind.wrap .i64 (s17 * (1000 : Int))) + s20))) && ((strEq v28.2.2.1 (ByteArray.mk #[])) && ((strEq v28.2.2.2.1 (ByteArray.mk #[])) && ((v28.2.2.2.2.1 == (0 : Int)) && (v28.2.2.2.2.2 == (0 : Int)))))))))) fun (b29 : Bool) =>
  cnd b29 (
  ret (Sum.inr (Sum.inr false))) (
  ret (Sum.inl (IntKind.wrap .i64 (s20 + (1 : Int)))))) (
  bnd (
  loopM (fun (s30 : Int) =>
  cnd (decide (s30 < (16 : Int))) (
  bnd (ix 1 s8.1 s17) fun (p31 : Addr) =>
  bnd (ld .sl p31) fun (v32 : Sl) =>
  bnd (ix 6 v32 (IntKind.wrap .i64 ((v19.len : Int) + s30))) fun (p33 : Addr) =>
  bnd (ld (.agg (.pair (.int .u8) (.pair (.int .i64) (.pair .str (.pair .str (.pair (.int .i64) (.int .i64))))))) p33) fun (v34 : (Int × (Int × (ByteArray × (ByteArray × (Int × Int)))))) =>
  cnd (!((v34.1 == (0 : Int)) && ((v34.2.1 == (IntKind.wrap .i64 ((IntKind.wrap .i64 ((IntKind.wrap .i64 ((-1 : Int) - s17)) * (1000 : Int))) - s30))) && ((strEq v34.2.2.1 (ByteArray.mk #[])) && ((strEq v34.2.2.2.1 (ByteArray.mk #[])) && ((v34.2.2.2.2.1 == (0 : Int)) && (v34.2.2.2.2.2 == (0 : Int)))))))) (
  ret (Sum.inr (Sum.inr false))) (
  ret (Sum.inl (IntKind.wrap .i64 (s30 + (1 : Int)))))) (
  ret (Sum.inr (Sum.inl (IntKind.wrap .i64 (s17 + (1 : Int))))))) (0 : Int)) fun r35 =>
  ret (Sum.inr r35))) (0 : Int)) (
  ret (Sum.inr true))) (0 : Int)) fun r36 =>
  ret (Sum.inr r36))) ((Sl.mk none 0 0), (0 : Int))) fun r37 =>
  ret (Sum.inr r37))) (0 : Int)
noncomputable def Af57_ownDeeds : Ann := (.two .nil (.two (.two .nil (.one (.loop [(3, (.int .i64))] [4, 13, 14, 15, 16, 17, 18, 19, 20, 21, 22, 23, 24, 25, 26, 27, 28, 29, 30, 31, 32, 33, 34, 35, 36, 37, 38] (.two (.two .nil (.two .nil .nil)) (.two (.one (.two .nil (.one (.loop [(4, (.int .i64))] [19, 20, 21, 22, 23, 24, 25, 26, 27, 28, 29, 30, 31, 32, 33, 34, 35, 36, 37, 38] (.two (.two .nil (.two .nil .nil)) (.two (.one .nil) .nil)))))) .nil))))) (.two .nil (.two (.two .nil (.one (.loop [(5, .sl), (6, (.int .i64))] [7, 8, 39, 40, 41, 42, 43, 44, 45, 46, 47, 48, 49, 50, 51, 52, 53, 54, 55, 56, 57, 58, 59, 60, 61, 62, 63, 64, 65] (.two (.two .nil (.two .nil .nil)) (.two (.one (.two .nil (.two (.two .nil (.one (.loop [(7, .sl), (8, (.int .i64))] [49, 50, 51, 52, 53, 54, 55, 56, 57, 58, 59, 60, 61] (.two (.two .nil (.two .nil .nil)) (.two (.one .nil) .nil))))) .nil))) .nil))))) (.two (.two .nil (.one (.loop [(9, (.int .i64))] [2, 10, 11, 12, 66, 67, 68, 69, 70, 71, 72, 73, 74, 75, 76, 77, 78, 79, 80, 81, 82, 83, 84, 85, 86, 87, 88, 89, 90, 91, 92, 93, 94, 95, 96, 97, 98, 99, 100, 101, 102, 103, 104, 105, 106, 107, 108, 109, 110, 111, 112, 113, 114, 115, 116, 117, 118, 119, 120, 121, 122, 123, 124, 125, 126, 127, 128, 129] (.two (.two .nil (.two .nil .nil)) (.two (.one (.two .nil (.two (.two .nil (.one (.loop [(11, (.int .i64))] [2, 77, 78, 79, 80, 81, 82, 83, 84, 85, 86, 87, 88, 89, 90, 91, 92, 93, 94, 95, 96, 97, 98, 99, 100, 101, 102, 103, 104, 105, 106, 107, 108, 109] (.two (.two .nil (.two .nil .nil)) (.two (.one (.two .nil (.two (.two .nil .nil) .nil))) .nil))))) (.two .nil (.one (.loop [(12, (.int .i64))] [2, 110, 111, 112, 113, 114, 115, 116, 117, 118, 119, 120, 121, 122, 123, 124, 125, 126, 127, 128, 129] (.two (.two .nil (.two .nil .nil)) (.two (.one (.two .nil (.two (.two .nil .nil) .nil))) .nil)))))))) .nil))))) (.two .nil .nil))))))
theorem Cf57_ownDeeds_ok : Cf57_ownDeeds.Ok := mkC_ok mixed tysOk zerosOk eqsOk trivial trivial
theorem Ef57_ownDeeds (x : Sl) : evF Cf57_ownDeeds Tryz.f57 130 .sl .bool Af57_ownDeeds x = f57_ownDeeds x := by kernel_rfl
theorem Sf57_ownDeeds : SoundF Tryz.prog 57 ⟨.sl, .bool, fun x => f57_ownDeeds x⟩ :=
  soundF_of Cf57_ownDeeds_ok Tryz.func57 (by kernel_rfl) (by kernel_rfl) Ef57_ownDeeds
noncomputable def Cf58_ownFiles : Ctx := mkC Tryz.prog tys zeros eqs [(86, ⟨(.int .i64), .str, fun x => f86_mark x⟩)] []
/-- palaverpalaverref00.ownFiles -/
noncomputable def f58_ownFiles (x0 : Sl) : M Bool :=
  loopM (fun (s1 : Int) =>
  cnd (decide (s1 < (x0.len : Int))) (
  loopM (fun (s2 : Int) =>
  bnd (ix 1 x0 s1) fun (p3 : Addr) =>
  bnd (ld .sl p3) fun (v4 : Sl) =>
  cnd (decide (s2 < (v4.len : Int))) (
  bnd (
  bnd (ordM 58 7 (regionIn 7 Tryz.f58)) fun (o6 : List Nat) =>
  bnd (ix 1 x0 s1) fun (p7 : Addr) =>
  bnd (ld .sl p7) fun (v8 : Sl) =>
  bnd (f86_mark (IntKind.wrap .i64 ((IntKind.wrap .i64 (s1 * (1000 : Int))) + s2))) fun (r9 : ByteArray) =>
  bnd (
  bnd (chk .sl p7 v8) fun _ =>
  ret ()) fun _ =>
  bnd (ix 2 v8 s2) fun (p10 : Addr) =>
  bnd (wrs p10 0 [.string r9, .string (ByteArray.mk #[])]) fun _ =>
  bnd (ret ()) fun _ =>
  ret ()) fun (s5 : Unit) =>
  ret (Sum.inl (IntKind.wrap .i64 (s2 + (1 : Int))))) (
  ret (Sum.inr (Sum.inl (IntKind.wrap .i64 (s1 + (1 : Int))))))) (0 : Int)) (
  bnd (
  loopM (fun (s11 : (Sl × Int)) =>
  cnd (decide (s11.2 < (x0.len : Int))) (
  bnd (ix 1 x0 s11.2) fun (p12 : Addr) =>
  bnd (ld .sl p12) fun (v13 : Sl) =>
  loopM (fun (s14 : (Sl × Int)) =>
  cnd (decide (s14.2 < (16 : Int))) (
  bnd (f86_mark (IntKind.wrap .i64 ((IntKind.wrap .i64 ((IntKind.wrap .i64 ((-1 : Int) - s11.2)) * (1000 : Int))) - s14.2))) fun (r15 : ByteArray) =>
  bnd (runV Tryz.prog .sl (Instr.buildSlice 121 1 #[(0, .agg #[.string r15, .string (ByteArray.mk #[])])])) fun (v16 : Sl) =>
  bnd (runV Tryz.prog .sl (Builtin.append_ #[121, 121] 121 #[.slice s14.1.a s14.1.len s14.1.cap, .slice v16.a v16.len v16.cap])) fun (v17 : Sl) =>
  ret (Sum.inl (v17, (IntKind.wrap .i64 (s14.2 + (1 : Int)))))) (
  bnd (
  bnd (runV Tryz.prog .sl (Instr.buildSlice 44 1 #[(0, .slice s14.1.a s14.1.len s14.1.cap)])) fun (v18 : Sl) =>
  bnd (runV Tryz.prog .sl (Builtin.append_ #[44, 44] 44 #[.slice s11.1.a s11.1.len s11.1.cap, .slice v18.a v18.len v18.cap])) fun (v19 : Sl) =>
  ret (Sum.inl (v19, (IntKind.wrap .i64 (s11.2 + (1 : Int)))))) fun r20 =>
  ret (Sum.inr r20))) (v13, (0 : Int))) (
  bnd (
  loopM (fun (s21 : Int) =>
  cnd (decide (s21 < (x0.len : Int))) (
  bnd (ix 1 x0 s21) fun (p22 : Addr) =>
  bnd (ld .sl p22) fun (v23 : Sl) =>
  loopM (fun (s24 : Int) =>
  cnd (decide (s24 < (v23.len : Int))) (
  bnd (
  bnd (ordM 58 25 (regionIn 25 Tryz.f58)) fun (o26 : List Nat) =>
  bnd (ix 1 x0 s21) fun (p27 : Addr) =>
  bnd (ld .sl p27) fun (v28 : Sl) =>
  bnd (ix 2 v28 s24) fun (p29 : Addr) =>
  bnd (ld (.agg (.pair .str .str)) p29) fun (v30 : (ByteArray × ByteArray)) =>
  bnd (f86_mark (IntKind.wrap .i64 ((IntKind.wrap .i64 (s21 * (1000 : Int))) + s24))) fun (r31 : ByteArray) =>
  bnd (
  bnd (chk (.agg (.pair .str .str)) p29 v30) fun _ =>
  bnd (chk .sl p27 v28) fun _ =>
  ret ()) fun _ =>
  cnd (!((strEq v30.1 r31) && (strEq v30.2 (ByteArray.mk #[])))) (
  bnd (
  bnd (chk (.agg (.pair .str .str)) p29 v30) fun _ =>
  bnd (chk .sl p27 v28) fun _ =>
  ret ()) fun _ =>
  ret true) (
  bnd (ix 1 s11.1 s21) fun (p32 : Addr) =>
  bnd (ld .sl p32) fun (v33 : Sl) =>
  bnd (ix 2 v33 s24) fun (p34 : Addr) =>
  bnd (ld (.agg (.pair .str .str)) p34) fun (v35 : (ByteArray × ByteArray)) =>
  bnd (f86_mark (IntKind.wrap .i64 ((IntKind.wrap .i64 (s21 * (1000 : Int))) + s24))) fun (r36 : ByteArray) =>
  bnd (
  bnd (chk (.agg (.pair .str .str)) p34 v35) fun _ =>
  bnd (chk .sl p32 v33) fun _ =>
  bnd (chk (.agg (.pair .str .str)) p29 v30) fun _ =>
  bnd (chk .sl p27 v28) fun _ =>
  ret ()) fun _ =>
  ret (!((strEq v35.1 r36) && (strEq v35.2 (ByteArray.mk #[])))))) fun (s25 : Bool) =>
  cnd s25 (
  ret (Sum.inr (Sum.inr false))) (
  ret (Sum.inl (IntKind.wrap .i64 (s24 + (1 : Int)))))) (
  bnd (
  loopM (fun (s37 : Int) =>
  cnd (decide (s37 < (16 : Int))) (
  bnd (
  bnd (ordM 58 30 (regionIn 30 Tryz.f58)) fun (o39 : List Nat) =>
  bnd (ix 1 s11.1 s21) fun (p40 : Addr) =>
  bnd (ld .sl p40) fun (v41 : Sl) =>
  bnd (ix 2 v41 (IntKind.wrap .i64 ((v23.len : Int) + s37))) fun (p42 : Addr) =>
  bnd (ld (.agg (.pair .str .str)) p42) fun (v43 : (ByteArray × ByteArray)) =>
  bnd (f86_mark (IntKind.wrap .i64 ((IntKind.wrap .i64 ((IntKind.wrap .i64 ((-1 : Int) - s21)) * (1000 : Int))) - s37))) fun (r44 : ByteArray) =>
  bnd (
  bnd (chk (.agg (.pair .str .str)) p42 v43) fun _ =>
  bnd (chk .sl p40 v41) fun _ =>
  ret ()) fun _ =>
  ret (!((strEq v43.1 r44) && (strEq v43.2 (ByteArray.mk #[]))))) fun (s38 : Bool) =>
  cnd s38 (
  ret (Sum.inr (Sum.inr false))) (
  ret (Sum.inl (IntKind.wrap .i64 (s37 + (1 : Int)))))) (
  ret (Sum.inr (Sum.inl (IntKind.wrap .i64 (s21 + (1 : Int))))))) (0 : Int)) fun r45 =>
  ret (Sum.inr r45))) (0 : Int)) (
  ret (Sum.inr true))) (0 : Int)) fun r46 =>
  ret (Sum.inr r46))) ((Sl.mk none 0 0), (0 : Int))) fun r47 =>
  ret (Sum.inr r47))) (0 : Int)
noncomputable def Af58_ownFiles : Ann := (.two .nil (.two (.two .nil (.one (.loop [(3, (.int .i64))] [4, 13, 14, 15, 16, 17, 18, 19, 20, 21, 22, 23, 24, 25, 26, 27, 28, 29, 30, 31, 32, 33, 34, 35, 36, 37, 38, 39] (.two (.two .nil (.two .nil .nil)) (.two (.one (.two .nil (.one (.loop [(4, (.int .i64))] [19, 20, 21, 22, 23, 24, 25, 26, 27, 28, 29, 30, 31, 32, 33, 34, 35, 36, 37, 38, 39] (.two (.two .nil (.two .nil .nil)) (.two (.one (.join [] [28, 29, 30, 31, 32, 33, 34, 35, 36, 37, 38, 39] false (.ord 58 [(0, 8190), (0, 8189), (3, 8184), (4, 8179), (0, 8175), (0, 8159), (32, 8095), (0, 8063), (192, 7743), (256, 7423), (512, 6655), (2047, 6119), (4095, 1023)] (.o 0 (.o 1 (.o 2 (.o 3 (.o 4 (.o 5 (.o 6 (.o 7 (.o 8 (.o 9 (.o 10 (.o 11 (.o 12 .done)))))))))))))))) .nil)))))) .nil))))) (.two .nil (.two (.two .nil (.one (.loop [(5, .sl), (6, (.int .i64))] [7, 8, 40, 41, 42, 43, 44, 45, 46, 47, 48, 49, 50, 51, 52, 53, 54, 55, 56, 57, 58, 59, 60, 61, 62, 63, 64, 65, 66, 67] (.two (.two .nil (.two .nil .nil)) (.two (.one (.two .nil (.two (.two .nil (.one (.loop [(7, .sl), (8, (.int .i64))] [50, 51, 52, 53, 54, 55, 56, 57, 58, 59, 60, 61, 62, 63] (.two (.two .nil (.two .nil .nil)) (.two (.one .nil) .nil))))) .nil))) .nil))))) (.two (.two .nil (.one (.loop [(9, (.int .i64))] [2, 10, 11, 12, 68, 69, 70, 71, 72, 73, 74, 75, 76, 77, 78, 79, 80, 81, 82, 83, 84, 85, 86, 87, 88, 89, 90, 91, 92, 93, 94, 95, 96, 97, 98, 99, 100, 101, 102, 103, 104, 105, 106, 107, 108, 109, 110, 111, 112, 113, 114, 115, 116, 117, 118, 119, 120, 121, 122, 123, 124, 125, 126, 127, 128, 129, 130, 131, 132, 133, 134] (.two (.two .nil (.two .nil .nil)) (.two (.one (.two .nil (.two (.two .nil (.one (.loop [(11, (.int .i64))] [2, 79, 80, 81, 82, 83, 84, 85, 86, 87, 88, 89, 90, 91, 92, 93, 94, 95, 96, 97, 98, 99, 100, 101, 102, 103, 104, 105, 106, 107, 108, 109, 110, 111, 112, 113] (.two (.two .nil (.two .nil .nil)) (.two (.one (.two (.join [(113, .bool)] [84, 85, 86, 87, 88, 89, 90, 91, 92, 93, 94, 95, 96, 97, 98, 99, 100, 101, 102, 103, 104, 105, 106, 107, 108, 109, 110, 111, 112] false (.ord 58 [(0, 1073741822), (0, 1073741821), (3, 1073741816), (4, 1073741811), (0, 1073741807), (24, 1073741767), (32, 1073741727), (0, 1073741695), (128, 1073741439), (0, 1073741311), (768, 1073740031), (1024, 1073738751), (2048, 1073735679), (4160, 1073729471), (10240, 1073717247), (16384, 1073692671), (16384, 1073659903), (114688, 1073496063), (147456, 1073332223), (16384, 1073201151), (802816, 1071890431), (1064960, 1070579711), (16384, 1069531135), (4210688, 1061142527), (16384, 1056948223), (25182208, 1015005183), (33570816, 973062143), (67125248, 872398847), (136331264, 668975103), (268451840, 268419071)] (.o 0 (.o 1 (.o 2 (.o 3 (.o 4 (.o 5 (.o 6 (.o 7 (.o 8 (.o 9 (.o 10 (.o 11 (.o 12 (.o 13 (.o 14 (.s 98 (.o 15 (.o 16 (.o 17 (.o 18 (.o 19 (.o 20 (.o 21 (.o 22 (.o 23 (.o 24 (.o 25 (.o 26 (.o 27 (.o 28 (.o 29 .done))))))))))))))) (.o 15 (.o 16 (.o 17 (.o 18 (.o 19 (.o 20 (.o 21 (.o 22 (.o 23 (.o 24 (.o 25 (.o 26 (.o 27 (.o 28 (.o 29 .done))))))))))))))))))))))))))))))))) (.two (.two .nil .nil) .nil))) .nil))))) (.two .nil (.one (.loop [(12, (.int .i64))] [2, 114, 115, 116, 117, 118, 119, 120, 121, 122, 123, 124, 125, 126, 127, 128, 129, 130, 131, 132, 133, 134] (.two (.two .nil (.two .nil .nil)) (.two (.one (.two (.join [(134, .bool)] [118, 119, 120, 121, 122, 123, 124, 125, 126, 127, 128, 129, 130, 131, 132, 133] false (.ord 58 [(0, 131070), (0, 131069), (3, 131064), (4, 131059), (0, 131055), (0, 131039), (48, 130959), (72, 130871), (128, 130687), (0, 130559), (512, 129535), (1024, 127999), (0, 126975), (6144, 116735), (8192, 106495), (16384, 81919), (33024, 32511)] (.o 0 (.o 1 (.o 2 (.o 3 (.o 4 (.o 5 (.o 6 (.o 7 (.o 8 (.o 9 (.o 10 (.o 11 (.o 12 (.o 13 (.o 14 (.o 15 (.o 16 .done))))))))))))))))))) (.two (.two .nil .nil) .nil))) .nil)))))))) .nil))))) (.two .nil .nil))))))
theorem Cf58_ownFiles_ok : Cf58_ownFiles.Ok := mkC_ok mixed tysOk zerosOk eqsOk ⟨Sf86_mark, trivial⟩ trivial
theorem Ef58_ownFiles (x : Sl) : evF Cf58_ownFiles Tryz.f58 135 .sl .bool Af58_ownFiles x = f58_ownFiles x := by kernel_rfl
theorem Sf58_ownFiles : SoundF Tryz.prog 58 ⟨.sl, .bool, fun x => f58_ownFiles x⟩ :=
  soundF_of Cf58_ownFiles_ok Tryz.func58 (by kernel_rfl) (by kernel_rfl) Ef58_ownFiles
noncomputable def Cf59_ownChoices : Ctx := mkC Tryz.prog tys zeros eqs [] []
/-- palaverpalaverref00.ownChoices -/
noncomputable def f59_ownChoices (x0 : Sl) : M Bool :=
  loopM (fun (s1 : Int) =>
  cnd (decide (s1 < (x0.len : Int))) (
  loopM (fun (s2 : Int) =>
  bnd (ix 1 x0 s1) fun (p3 : Addr) =>
  bnd (ld .sl p3) fun (v4 : Sl) =>
  cnd (decide (s2 < (v4.len : Int))) (
  bnd (ix 1 x0 s1) fun (p5 : Addr) =>
  bnd (ld .sl p5) fun (v6 : Sl) =>
  bnd (ix 3 v6 s2) fun (p7 : Addr) =>
  bnd (wrs p7 0 [.int .u8 (0 : Int), .int .i64 (IntKind.wrap .i64 ((IntKind.wrap .i64 (s1 * (1000 : Int))) + s2)), .string (ByteArray.mk #[])]) fun _ =>
  ret (Sum.inl (IntKind.wrap .i64 (s2 + (1 : Int))))) (
  ret (Sum.inr (Sum.inl (IntKind.wrap .i64 (s1 + (1 : Int))))))) (0 : Int)) (
  bnd (
  loopM (fun (s8 : (Sl × Int)) =>
  cnd (decide (s8.2 < (x0.len : Int))) (
  bnd (ix 1 x0 s8.2) fun (p9 : Addr) =>
  bnd (ld .sl p9) fun (v10 : Sl) =>
  loopM (fun (s11 : (Sl × Int)) =>
  cnd (decide (s11.2 < (16 : Int))) (
  bnd (runV Tryz.prog .sl (Instr.buildSlice 125 1 #[(0, .agg #[.int .u8 (0 : Int), .int .i64 (IntKind.wrap .i64 ((IntKind.wrap .i64 ((IntKind.wrap .i64 ((-1 : Int) - s8.2)) * (1000 : Int))) - s11.2)), .string (ByteArray.mk #[])])])) fun (v12 : Sl) =>
  bnd (runV Tryz.prog .sl (Builtin.append_ #[125, 125] 125 #[.slice s11.1.a s11.1.len s11.1.cap, .slice v12.a v12.len v12.cap])) fun (v13 : Sl) =>
  ret (Sum.inl (v13, (IntKind.wrap .i64 (s11.2 + (1 : Int)))))) (
  bnd (
  bnd (runV Tryz.prog .sl (Instr.buildSlice 45 1 #[(0, .slice s11.1.a s11.1.len s11.1.cap)])) fun (v14 : Sl) =>
  bnd (runV Tryz.prog .sl (Builtin.append_ #[45, 45] 45 #[.slice s8.1.a s8.1.len s8.1.cap, .slice v14.a v14.len v14.cap])) fun (v15 : Sl) =>
  ret (Sum.inl (v15, (IntKind.wrap .i64 (s8.2 + (1 : Int)))))) fun r16 =>
  ret (Sum.inr r16))) (v10, (0 : Int))) (
  bnd (
  loopM (fun (s17 : Int) =>
  cnd (decide (s17 < (x0.len : Int))) (
  bnd (ix 1 x0 s17) fun (p18 : Addr) =>
  bnd (ld .sl p18) fun (v19 : Sl) =>
  loopM (fun (s20 : Int) =>
  cnd (decide (s20 < (v19.len : Int))) (
  bnd (ix 1 x0 s17) fun (p21 : Addr) =>
  bnd (ld .sl p21) fun (v22 : Sl) =>
  bnd (ix 3 v22 s20) fun (p23 : Addr) =>
  bnd (ld (.agg (.pair (.int .u8) (.pair (.int .i64) .str))) p23) fun (v24 : (Int × (Int × ByteArray))) =>
  bnd (
  cnd (!((v24.1 == (0 : Int)) && ((v24.2.1 == (IntKind.wrap .i64 ((IntKind.wrap .i64 (s17 * (1000 : Int))) + s20))) && (strEq v24.2.2 (ByteArray.mk #[]))))) (
  ret true) (
  bnd (ix 1 s8.1 s17) fun (p25 : Addr) =>
  bnd (ld .sl p25) fun (v26 : Sl) =>
  bnd (ix 3 v26 s20) fun (p27 : Addr) =>
  bnd (ld (.agg (.pair (.int .u8) (.pair (.int .i64) .str))) p27) fun (v28 : (Int × (Int × ByteArray))) =>
  ret (!((v28.1 == (0 : Int)) && ((v28.2.1 == (IntKind.wrap .i64 ((IntKind.wrap .i64 (s17 * (1000 : Int))) + s20))) && (strEq v28.2.2 (ByteArray.mk #[]))))))) fun (b29 : Bool) =>
  cnd b29 (
  ret (Sum.inr (Sum.inr false))) (
  ret (Sum.inl (IntKind.wrap .i64 (s20 + (1 : Int)))))) (
  bnd (
  loopM (fun (s30 : Int) =>
  cnd (decide (s30 < (16 : Int))) (
  bnd (ix 1 s8.1 s17) fun (p31 : Addr) =>
  bnd (ld .sl p31) fun (v32 : Sl) =>
  bnd (ix 3 v32 (IntKind.wrap .i64 ((v19.len : Int) + s30))) fun (p33 : Addr) =>
  bnd (ld (.agg (.pair (.int .u8) (.pair (.int .i64) .str))) p33) fun (v34 : (Int × (Int × ByteArray))) =>
  cnd (!((v34.1 == (0 : Int)) && ((v34.2.1 == (IntKind.wrap .i64 ((IntKind.wrap .i64 ((IntKind.wrap .i64 ((-1 : Int) - s17)) * (1000 : Int))) - s30))) && (strEq v34.2.2 (ByteArray.mk #[]))))) (
  ret (Sum.inr (Sum.inr false))) (
  ret (Sum.inl (IntKind.wrap .i64 (s30 + (1 : Int)))))) (
  ret (Sum.inr (Sum.inl (IntKind.wrap .i64 (s17 + (1 : Int))))))) (0 : Int)) fun r35 =>
  ret (Sum.inr r35))) (0 : Int)) (
  ret (Sum.inr true))) (0 : Int)) fun r36 =>
  ret (Sum.inr r36))) ((Sl.mk none 0 0), (0 : Int))) fun r37 =>
  ret (Sum.inr r37))) (0 : Int)
noncomputable def Af59_ownChoices : Ann := (.two .nil (.two (.two .nil (.one (.loop [(3, (.int .i64))] [4, 13, 14, 15, 16, 17, 18, 19, 20, 21, 22, 23, 24, 25, 26, 27, 28, 29, 30, 31, 32, 33, 34, 35, 36, 37, 38] (.two (.two .nil (.two .nil .nil)) (.two (.one (.two .nil (.one (.loop [(4, (.int .i64))] [19, 20, 21, 22, 23, 24, 25, 26, 27, 28, 29, 30, 31, 32, 33, 34, 35, 36, 37, 38] (.two (.two .nil (.two .nil .nil)) (.two (.one .nil) .nil)))))) .nil))))) (.two .nil (.two (.two .nil (.one (.loop [(5, .sl), (6, (.int .i64))] [7, 8, 39, 40, 41, 42, 43, 44, 45, 46, 47, 48, 49, 50, 51, 52, 53, 54, 55, 56, 57, 58, 59, 60, 61, 62, 63, 64, 65] (.two (.two .nil (.two .nil .nil)) (.two (.one (.two .nil (.two (.two .nil (.one (.loop [(7, .sl), (8, (.int .i64))] [49, 50, 51, 52, 53, 54, 55, 56, 57, 58, 59, 60, 61] (.two (.two .nil (.two .nil .nil)) (.two (.one .nil) .nil))))) .nil))) .nil))))) (.two (.two .nil (.one (.loop [(9, (.int .i64))] [2, 10, 11, 12, 66, 67, 68, 69, 70, 71, 72, 73, 74, 75, 76, 77, 78, 79, 80, 81, 82, 83, 84, 85, 86, 87, 88, 89, 90, 91, 92, 93, 94, 95, 96, 97, 98, 99, 100, 101, 102, 103, 104, 105, 106, 107, 108, 109, 110, 111, 112, 113, 114, 115, 116, 117, 118, 119, 120, 121, 122, 123, 124, 125, 126, 127, 128, 129] (.two (.two .nil (.two .nil .nil)) (.two (.one (.two .nil (.two (.two .nil (.one (.loop [(11, (.int .i64))] [2, 77, 78, 79, 80, 81, 82, 83, 84, 85, 86, 87, 88, 89, 90, 91, 92, 93, 94, 95, 96, 97, 98, 99, 100, 101, 102, 103, 104, 105, 106, 107, 108, 109] (.two (.two .nil (.two .nil .nil)) (.two (.one (.two .nil (.two (.two .nil .nil) .nil))) .nil))))) (.two .nil (.one (.loop [(12, (.int .i64))] [2, 110, 111, 112, 113, 114, 115, 116, 117, 118, 119, 120, 121, 122, 123, 124, 125, 126, 127, 128, 129] (.two (.two .nil (.two .nil .nil)) (.two (.one (.two .nil (.two (.two .nil .nil) .nil))) .nil)))))))) .nil))))) (.two .nil .nil))))))
theorem Cf59_ownChoices_ok : Cf59_ownChoices.Ok := mkC_ok mixed tysOk zerosOk eqsOk trivial trivial
theorem Ef59_ownChoices (x : Sl) : evF Cf59_ownChoices Tryz.f59 130 .sl .bool Af59_ownChoices x = f59_ownChoices x := by kernel_rfl
theorem Sf59_ownChoices : SoundF Tryz.prog 59 ⟨.sl, .bool, fun x => f59_ownChoices x⟩ :=
  soundF_of Cf59_ownChoices_ok Tryz.func59 (by kernel_rfl) (by kernel_rfl) Ef59_ownChoices
noncomputable def Cf60_ownTexts : Ctx := mkC Tryz.prog tys zeros eqs [(86, ⟨(.int .i64), .str, fun x => f86_mark x⟩)] []
/-- palaverpalaverref00.ownTexts -/
noncomputable def f60_ownTexts (x0 : Sl) : M Bool :=
  loopM (fun (s1 : Int) =>
  cnd (decide (s1 < (x0.len : Int))) (
  loopM (fun (s2 : Int) =>
  bnd (ix 1 x0 s1) fun (p3 : Addr) =>
  bnd (ld .sl p3) fun (v4 : Sl) =>
  cnd (decide (s2 < (v4.len : Int))) (
  bnd (
  bnd (ordM 60 7 (regionIn 7 Tryz.f60)) fun (o6 : List Nat) =>
  bnd (ix 1 x0 s1) fun (p7 : Addr) =>
  bnd (ld .sl p7) fun (v8 : Sl) =>
  bnd (f86_mark (IntKind.wrap .i64 ((IntKind.wrap .i64 (s1 * (1000 : Int))) + s2))) fun (r9 : ByteArray) =>
  bnd (
  bnd (chk .sl p7 v8) fun _ =>
  ret ()) fun _ =>
  bnd (ix 1 v8 s2) fun (p10 : Addr) =>
  bnd (wrs p10 0 [.string r9]) fun _ =>
  bnd (ret ()) fun _ =>
  ret ()) fun (s5 : Unit) =>
  ret (Sum.inl (IntKind.wrap .i64 (s2 + (1 : Int))))) (
  ret (Sum.inr (Sum.inl (IntKind.wrap .i64 (s1 + (1 : Int))))))) (0 : Int)) (
  bnd (
  loopM (fun (s11 : (Sl × Int)) =>
  cnd (decide (s11.2 < (x0.len : Int))) (
  bnd (ix 1 x0 s11.2) fun (p12 : Addr) =>
  bnd (ld .sl p12) fun (v13 : Sl) =>
  loopM (fun (s14 : (Sl × Int)) =>
  cnd (decide (s14.2 < (16 : Int))) (
  bnd (f86_mark (IntKind.wrap .i64 ((IntKind.wrap .i64 ((IntKind.wrap .i64 ((-1 : Int) - s11.2)) * (1000 : Int))) - s14.2))) fun (r15 : ByteArray) =>
  bnd (runV Tryz.prog .sl (Instr.buildSlice 129 1 #[(0, .string r15)])) fun (v16 : Sl) =>
  bnd (runV Tryz.prog .sl (Builtin.append_ #[129, 129] 129 #[.slice s14.1.a s14.1.len s14.1.cap, .slice v16.a v16.len v16.cap])) fun (v17 : Sl) =>
  ret (Sum.inl (v17, (IntKind.wrap .i64 (s14.2 + (1 : Int)))))) (
  bnd (
  bnd (runV Tryz.prog .sl (Instr.buildSlice 46 1 #[(0, .slice s14.1.a s14.1.len s14.1.cap)])) fun (v18 : Sl) =>
  bnd (runV Tryz.prog .sl (Builtin.append_ #[46, 46] 46 #[.slice s11.1.a s11.1.len s11.1.cap, .slice v18.a v18.len v18.cap])) fun (v19 : Sl) =>
  ret (Sum.inl (v19, (IntKind.wrap .i64 (s11.2 + (1 : Int)))))) fun r20 =>
  ret (Sum.inr r20))) (v13, (0 : Int))) (
  bnd (
  loopM (fun (s21 : Int) =>
  cnd (decide (s21 < (x0.len : Int))) (
  bnd (ix 1 x0 s21) fun (p22 : Addr) =>
  bnd (ld .sl p22) fun (v23 : Sl) =>
  loopM (fun (s24 : Int) =>
  cnd (decide (s24 < (v23.len : Int))) (
  bnd (
  bnd (ordM 60 25 (regionIn 25 Tryz.f60)) fun (o26 : List Nat) =>
  bnd (ix 1 x0 s21) fun (p27 : Addr) =>
  bnd (ld .sl p27) fun (v28 : Sl) =>
  bnd (ix 1 v28 s24) fun (p29 : Addr) =>
  bnd (ld .str p29) fun (v30 : ByteArray) =>
  bnd (f86_mark (IntKind.wrap .i64 ((IntKind.wrap .i64 (s21 * (1000 : Int))) + s24))) fun (r31 : ByteArray) =>
  bnd (
  bnd (chk .str p29 v30) fun _ =>
  bnd (chk .sl p27 v28) fun _ =>
  ret ()) fun _ =>
  cnd (!strEq v30 r31) (
  bnd (
  bnd (chk .str p29 v30) fun _ =>
  bnd (chk .sl p27 v28) fun _ =>
  ret ()) fun _ =>
  ret true) (
  bnd (ix 1 s11.1 s21) fun (p32 : Addr) =>
  bnd (ld .sl p32) fun (v33 : Sl) =>
  bnd (ix 1 v33 s24) fun (p34 : Addr) =>
  bnd (ld .str p34) fun (v35 : ByteArray) =>
  bnd (f86_mark (IntKind.wrap .i64 ((IntKind.wrap .i64 (s21 * (1000 : Int))) + s24))) fun (r36 : ByteArray) =>
  bnd (
  bnd (chk .str p34 v35) fun _ =>
  bnd (chk .sl p32 v33) fun _ =>
  bnd (chk .str p29 v30) fun _ =>
  bnd (chk .sl p27 v28) fun _ =>
  ret ()) fun _ =>
  ret (!strEq v35 r36))) fun (s25 : Bool) =>
  cnd s25 (
  ret (Sum.inr (Sum.inr false))) (
  ret (Sum.inl (IntKind.wrap .i64 (s24 + (1 : Int)))))) (
  bnd (
  loopM (fun (s37 : Int) =>
  cnd (decide (s37 < (16 : Int))) (
  bnd (
  bnd (ordM 60 30 (regionIn 30 Tryz.f60)) fun (o39 : List Nat) =>
  bnd (ix 1 s11.1 s21) fun (p40 : Addr) =>
  bnd (ld .sl p40) fun (v41 : Sl) =>
  bnd (ix 1 v41 (IntKind.wrap .i64 ((v23.len : Int) + s37))) fun (p42 : Addr) =>
  bnd (ld .str p42) fun (v43 : ByteArray) =>
  bnd (f86_mark (IntKind.wrap .i64 ((IntKind.wrap .i64 ((IntKind.wrap .i64 ((-1 : Int) - s21)) * (1000 : Int))) - s37))) fun (r44 : ByteArray) =>
  bnd (
  bnd (chk .str p42 v43) fun _ =>
  bnd (chk .sl p40 v41) fun _ =>
  ret ()) fun _ =>
  ret (!strEq v43 r44)) fun (s38 : Bool) =>
  cnd s38 (
  ret (Sum.inr (Sum.inr false))) (
  ret (Sum.inl (IntKind.wrap .i64 (s37 + (1 : Int)))))) (
  ret (Sum.inr (Sum.inl (IntKind.wrap .i64 (s21 + (1 : Int))))))) (0 : Int)) fun r45 =>
  ret (Sum.inr r45))) (0 : Int)) (
  ret (Sum.inr true))) (0 : Int)) fun r46 =>
  ret (Sum.inr r46))) ((Sl.mk none 0 0), (0 : Int))) fun r47 =>
  ret (Sum.inr r47))) (0 : Int)
noncomputable def Af60_ownTexts : Ann := (.two .nil (.two (.two .nil (.one (.loop [(3, (.int .i64))] [4, 13, 14, 15, 16, 17, 18, 19, 20, 21, 22, 23, 24, 25, 26, 27, 28, 29, 30, 31, 32, 33, 34, 35, 36, 37, 38] (.two (.two .nil (.two .nil .nil)) (.two (.one (.two .nil (.one (.loop [(4, (.int .i64))] [19, 20, 21, 22, 23, 24, 25, 26, 27, 28, 29, 30, 31, 32, 33, 34, 35, 36, 37, 38] (.two (.two .nil (.two .nil .nil)) (.two (.one (.join [] [28, 29, 30, 31, 32, 33, 34, 35, 36, 37, 38] false (.ord 60 [(0, 4094), (0, 4093), (3, 4088), (4, 4083), (0, 4079), (0, 4063), (32, 3999), (0, 3967), (192, 3647), (256, 3327), (1023, 3047), (2047, 511)] (.o 0 (.o 1 (.o 2 (.o 3 (.o 4 (.o 5 (.o 6 (.o 7 (.o 8 (.o 9 (.o 10 (.o 11 .done))))))))))))))) .nil)))))) .nil))))) (.two .nil (.two (.two .nil (.one (.loop [(5, .sl), (6, (.int .i64))] [7, 8, 39, 40, 41, 42, 43, 44, 45, 46, 47, 48, 49, 50, 51, 52, 53, 54, 55, 56, 57, 58, 59, 60, 61, 62, 63, 64, 65] (.two (.two .nil (.two .nil .nil)) (.two (.one (.two .nil (.two (.two .nil (.one (.loop [(7, .sl), (8, (.int .i64))] [49, 50, 51, 52, 53, 54, 55, 56, 57, 58, 59, 60, 61] (.two (.two .nil (.two .nil .nil)) (.two (.one .nil) .nil))))) .nil))) .nil))))) (.two (.two .nil (.one (.loop [(9, (.int .i64))] [2, 10, 11, 12, 66, 67, 68, 69, 70, 71, 72, 73, 74, 75, 76, 77, 78, 79, 80, 81, 82, 83, 84, 85, 86, 87, 88, 89, 90, 91, 92, 93, 94, 95, 96, 97, 98, 99, 100, 101, 102, 103, 104, 105, 106, 107, 108, 109, 110, 111, 112, 113, 114, 115, 116, 117, 118, 119, 120, 121, 122, 123, 124, 125, 126, 127, 128, 129] (.two (.two .nil (.two .nil .nil)) (.two (.one (.two .nil (.two (.two .nil (.one (.loop [(11, (.int .i64))] [2, 77, 78, 79, 80, 81, 82, 83, 84, 85, 86, 87, 88, 89, 90, 91, 92, 93, 94, 95, 96, 97, 98, 99, 100, 101, 102, 103, 104, 105, 106, 107, 108, 109] (.two (.two .nil (.two .nil .nil)) (.two (.one (.two (.join [(109, .bool)] [82, 83, 84, 85, 86, 87, 88, 89, 90, 91, 92, 93, 94, 95, 96, 97, 98, 99, 100, 101, 102, 103, 104, 105, 106, 107, 108] false (.ord 60 [(0, 268435454), (0, 268435453), (3, 268435448), (4, 268435443), (0, 268435439), (24, 268435399), (32, 268435359), (0, 268435327), (128, 268435071), (0, 268434943), (768, 268433663), (1024, 268432383), (2112, 268429247), (6144, 268423167), (8192, 268410879), (8192, 268394495), (57344, 268312575), (73728, 268230655), (8192, 268165119), (401408, 267509759), (532480, 266854399), (8192, 266330111), (2105344, 262135807), (8192, 260038655), (12591104, 239067135), (16785408, 218095615), (34611200, 166715391), (67117056, 67100671)] (.o 0 (.o 1 (.o 2 (.o 3 (.o 4 (.o 5 (.o 6 (.o 7 (.o 8 (.o 9 (.o 10 (.o 11 (.o 12 (.o 13 (.s 95 (.o 14 (.o 15 (.o 16 (.o 17 (.o 18 (.o 19 (.o 20 (.o 21 (.o 22 (.o 23 (.o 24 (.o 25 (.o 26 (.o 27 .done)))))))))))))) (.o 14 (.o 15 (.o 16 (.o 17 (.o 18 (.o 19 (.o 20 (.o 21 (.o 22 (.o 23 (.o 24 (.o 25 (.o 26 (.o 27 .done))))))))))))))))))))))))))))))) (.two (.two .nil .nil) .nil))) .nil))))) (.two .nil (.one (.loop [(12, (.int .i64))] [2, 110, 111, 112, 113, 114, 115, 116, 117, 118, 119, 120, 121, 122, 123, 124, 125, 126, 127, 128, 129] (.two (.two .nil (.two .nil .nil)) (.two (.one (.two (.join [(129, .bool)] [114, 115, 116, 117, 118, 119, 120, 121, 122, 123, 124, 125, 126, 127, 128] false (.ord 60 [(0, 65534), (0, 65533), (3, 65528), (4, 65523), (0, 65519), (0, 65503), (48, 65423), (72, 65335), (128, 65151), (0, 65023), (512, 63999), (1024, 62463), (0, 61439), (6144, 51199), (8192, 40959), (16640, 16127)] (.o 0 (.o 1 (.o 2 (.o 3 (.o 4 (.o 5 (.o 6 (.o 7 (.o 8 (.o 9 (.o 10 (.o 11 (.o 12 (.o 13 (.o 14 (.o 15 .done)))))))))))))))))) (.two (.two .nil .nil) .nil))) .nil)))))))) .nil))))) (.two .nil .nil))))))
theorem Cf60_ownTexts_ok : Cf60_ownTexts.Ok := mkC_ok mixed tysOk zerosOk eqsOk ⟨Sf86_mark, trivial⟩ trivial
theorem Ef60_ownTexts (x : Sl) : evF Cf60_ownTexts Tryz.f60 130 .sl .bool Af60_ownTexts x = f60_ownTexts x := by kernel_rfl
theorem Sf60_ownTexts : SoundF Tryz.prog 60 ⟨.sl, .bool, fun x => f60_ownTexts x⟩ :=
  soundF_of Cf60_ownTexts_ok Tryz.func60 (by kernel_rfl) (by kernel_rfl) Ef60_ownTexts
noncomputable def Cf61_ownBits : Ctx := mkC Tryz.prog tys zeros eqs [] []
/-- palaverpalaverref00.ownBits -/
noncomputable def f61_ownBits (x0 : Sl) : M Bool :=
  loopM (fun (s1 : Int) =>
  cnd (decide (s1 < (x0.len : Int))) (
  loopM (fun (s2 : Int) =>
  bnd (ix 1 x0 s1) fun (p3 : Addr) =>
  bnd (ld .sl p3) fun (v4 : Sl) =>
  cnd (decide (s2 < (v4.len : Int))) (
  bnd (ix 1 x0 s1) fun (p5 : Addr) =>
  bnd (ld .sl p5) fun (v6 : Sl) =>
  bnd (ix 1 v6 s2) fun (p7 : Addr) =>
  bnd (wrs p7 0 [.int .u32 (IntKind.wrap .u32 (IntKind.wrap .i64 ((IntKind.wrap .i64 ((IntKind.wrap .i64 (s1 * (1000 : Int))) + s2)) + (9000000 : Int))))]) fun _ =>
  ret (Sum.inl (IntKind.wrap .i64 (s2 + (1 : Int))))) (
  ret (Sum.inr (Sum.inl (IntKind.wrap .i64 (s1 + (1 : Int))))))) (0 : Int)) (
  bnd (
  loopM (fun (s8 : (Sl × Int)) =>
  cnd (decide (s8.2 < (x0.len : Int))) (
  bnd (ix 1 x0 s8.2) fun (p9 : Addr) =>
  bnd (ld .sl p9) fun (v10 : Sl) =>
  loopM (fun (s11 : (Sl × Int)) =>
  cnd (decide (s11.2 < (16 : Int))) (
  bnd (runV Tryz.prog .sl (Instr.buildSlice 130 1 #[(0, .int .u32 (IntKind.wrap .u32 (IntKind.wrap .i64 ((IntKind.wrap .i64 ((IntKind.wrap .i64 ((IntKind.wrap .i64 ((-1 : Int) - s8.2)) * (1000 : Int))) - s11.2)) + (9000000 : Int)))))])) fun (v12 : Sl) =>
  bnd (runV Tryz.prog .sl (Builtin.append_ #[130, 130] 130 #[.slice s11.1.a s11.1.len s11.1.cap, .slice v12.a v12.len v12.cap])) fun (v13 : Sl) =>
  ret (Sum.inl (v13, (IntKind.wrap .i64 (s11.2 + (1 : Int)))))) (
  bnd (
  bnd (runV Tryz.prog .sl (Instr.buildSlice 47 1 #[(0, .slice s11.1.a s11.1.len s11.1.cap)])) fun (v14 : Sl) =>
  bnd (runV Tryz.prog .sl (Builtin.append_ #[47, 47] 47 #[.slice s8.1.a s8.1.len s8.1.cap, .slice v14.a v14.len v14.cap])) fun (v15 : Sl) =>
  ret (Sum.inl (v15, (IntKind.wrap .i64 (s8.2 + (1 : Int)))))) fun r16 =>
  ret (Sum.inr r16))) (v10, (0 : Int))) (
  bnd (
  loopM (fun (s17 : Int) =>
  cnd (decide (s17 < (x0.len : Int))) (
  bnd (ix 1 x0 s17) fun (p18 : Addr) =>
  bnd (ld .sl p18) fun (v19 : Sl) =>
  loopM (fun (s20 : Int) =>
  cnd (decide (s20 < (v19.len : Int))) (
  bnd (ix 1 x0 s17) fun (p21 : Addr) =>
  bnd (ld .sl p21) fun (v22 : Sl) =>
  bnd (ix 1 v22 s20) fun (p23 : Addr) =>
  bnd (ld (.int .u32) p23) fun (v24 : Int) =>
  bnd (
  cnd (v24 != (IntKind.wrap .u32 (IntKind.wrap .i64 ((IntKind.wrap .i64 ((IntKind.wrap .i64 (s17 * (1000 : Int))) + s20)) + (9000000 : Int))))) (
  ret true) (
  bnd (ix 1 s8.1 s17) fun (p25 : Addr) =>
  bnd (ld .sl p25) fun (v26 : Sl) =>
  bnd (ix 1 v26 s20) fun (p27 : Addr) =>
  bnd (ld (.int .u32) p27) fun (v28 : Int) =>
  ret (v28 != (IntKind.wrap .u32 (IntKind.wrap .i64 ((IntKind.wrap .i64 ((IntKind.wrap .i64 (s17 * (1000 : Int))) + s20)) + (9000000 : Int))))))) fun (b29 : Bool) =>
  cnd b29 (
  ret (Sum.inr (Sum.inr false))) (
  ret (Sum.inl (IntKind.wrap .i64 (s20 + (1 : Int)))))) (
  bnd (
  loopM (fun (s30 : Int) =>
  cnd (decide (s30 < (16 : Int))) (
  bnd (ix 1 s8.1 s17) fun (p31 : Addr) =>
  bnd (ld .sl p31) fun (v32 : Sl) =>
  bnd (ix 1 v32 (IntKind.wrap .i64 ((v19.len : Int) + s30))) fun (p33 : Addr) =>
  bnd (ld (.int .u32) p33) fun (v34 : Int) =>
  cnd (v34 != (IntKind.wrap .u32 (IntKind.wrap .i64 ((IntKind.wrap .i64 ((IntKind.wrap .i64 ((IntKind.wrap .i64 ((-1 : Int) - s17)) * (1000 : Int))) - s30)) + (9000000 : Int))))) (
  ret (Sum.inr (Sum.inr false))) (
  ret (Sum.inl (IntKind.wrap .i64 (s30 + (1 : Int)))))) (
  ret (Sum.inr (Sum.inl (IntKind.wrap .i64 (s17 + (1 : Int))))))) (0 : Int)) fun r35 =>
  ret (Sum.inr r35))) (0 : Int)) (
  ret (Sum.inr true))) (0 : Int)) fun r36 =>
  ret (Sum.inr r36))) ((Sl.mk none 0 0), (0 : Int))) fun r37 =>
  ret (Sum.inr r37))) (0 : Int)
noncomputable def Af61_ownBits : Ann := (.two .nil (.two (.two .nil (.one (.loop [(3, (.int .i64))] [4, 13, 14, 15, 16, 17, 18, 19, 20, 21, 22, 23, 24, 25, 26, 27, 28, 29, 30, 31, 32, 33, 34, 35, 36, 37, 38, 39] (.two (.two .nil (.two .nil .nil)) (.two (.one (.two .nil (.one (.loop [(4, (.int .i64))] [19, 20, 21, 22, 23, 24, 25, 26, 27, 28, 29, 30, 31, 32, 33, 34, 35, 36, 37, 38, 39] (.two (.two .nil (.two .nil .nil)) (.two (.one .nil) .nil)))))) .nil))))) (.two .nil (.two (.two .nil (.one (.loop [(5, .sl), (6, (.int .i64))] [7, 8, 40, 41, 42, 43, 44, 45, 46, 47, 48, 49, 50, 51, 52, 53, 54, 55, 56, 57, 58, 59, 60, 61, 62, 63, 64, 65, 66, 67] (.two (.two .nil (.two .nil .nil)) (.two (.one (.two .nil (.two (.two .nil (.one (.loop [(7, .sl), (8, (.int .i64))] [50, 51, 52, 53, 54, 55, 56, 57, 58, 59, 60, 61, 62, 63] (.two (.two .nil (.two .nil .nil)) (.two (.one .nil) .nil))))) .nil))) .nil))))) (.two (.two .nil (.one (.loop [(9, (.int .i64))] [2, 10, 11, 12, 68, 69, 70, 71, 72, 73, 74, 75, 76, 77, 78, 79, 80, 81, 82, 83, 84, 85, 86, 87, 88, 89, 90, 91, 92, 93, 94, 95, 96, 97, 98, 99, 100, 101, 102, 103, 104, 105, 106, 107, 108, 109, 110, 111, 112, 113, 114, 115, 116, 117, 118, 119, 120, 121, 122, 123, 124, 125, 126, 127, 128, 129, 130, 131, 132, 133, 134] (.two (.two .nil (.two .nil .nil)) (.two (.one (.two .nil (.two (.two .nil (.one (.loop [(11, (.int .i64))] [2, 79, 80, 81, 82, 83, 84, 85, 86, 87, 88, 89, 90, 91, 92, 93, 94, 95, 96, 97, 98, 99, 100, 101, 102, 103, 104, 105, 106, 107, 108, 109, 110, 111, 112, 113] (.two (.two .nil (.two .nil .nil)) (.two (.one (.two .nil (.two (.two .nil .nil) .nil))) .nil))))) (.two .nil (.one (.loop [(12, (.int .i64))] [2, 114, 115, 116, 117, 118, 119, 120, 121, 122, 123, 124, 125, 126, 127, 128, 129, 130, 131, 132, 133, 134] (.two (.two .nil (.two .nil .nil)) (.two (.one (.two .nil (.two (.two .nil .nil) .nil))) .nil)))))))) .nil))))) (.two .nil .nil))))))
theorem Cf61_ownBits_ok : Cf61_ownBits.Ok := mkC_ok mixed tysOk zerosOk eqsOk trivial trivial
theorem Ef61_ownBits (x : Sl) : evF Cf61_ownBits Tryz.f61 135 .sl .bool Af61_ownBits x = f61_ownBits x := by kernel_rfl
theorem Sf61_ownBits : SoundF Tryz.prog 61 ⟨.sl, .bool, fun x => f61_ownBits x⟩ :=
  soundF_of Cf61_ownBits_ok Tryz.func61 (by kernel_rfl) (by kernel_rfl) Ef61_ownBits
noncomputable def Cf15_Book_Own : Ctx := mkC Tryz.prog tys zeros eqs [(54, ⟨.sl, .bool, fun x => f54_ownInts x⟩), (55, ⟨.sl, .bool, fun x => f55_ownNumbers x⟩), (56, ⟨.sl, .bool, fun x => f56_ownOops x⟩), (57, ⟨.sl, .bool, fun x => f57_ownDeeds x⟩), (58, ⟨.sl, .bool, fun x => f58_ownFiles x⟩), (59, ⟨.sl, .bool, fun x => f59_ownChoices x⟩), (60, ⟨.sl, .bool, fun x => f60_ownTexts x⟩), (61, ⟨.sl, .bool, fun x => f61_ownBits x⟩)] []
/-- (*palaverpalaverref00.Book).Own -/
noncomputable def f15_Book_Own (x0 : Option Addr) : M Bool :=
  bnd (drf x0) fun (p1 : Addr) =>
  bnd (ld .sl (Addr.add p1 0)) fun (v2 : Sl) =>
  bnd (f54_ownInts v2) fun (r3 : Bool) =>
  bnd (drf x0) fun (p4 : Addr) =>
  bnd (ld .sl (Addr.add p4 1)) fun (v5 : Sl) =>
  bnd (f55_ownNumbers v5) fun (r6 : Bool) =>
  bnd (drf x0) fun (p7 : Addr) =>
  bnd (ld .sl (Addr.add p7 2)) fun (v8 : Sl) =>
  bnd (f56_ownOops v8) fun (r9 : Bool) =>
  bnd (drf x0) fun (p10 : Addr) =>
  bnd (ld .sl (Addr.add p10 3)) fun (v11 : Sl) =>
  bnd (f57_ownDeeds v11) fun (r12 : Bool) =>
  bnd (drf x0) fun (p13 : Addr) =>
  bnd (ld .sl (Addr.add p13 4)) fun (v14 : Sl) =>
  bnd (f58_ownFiles v14) fun (r15 : Bool) =>
  bnd (drf x0) fun (p16 : Addr) =>
  bnd (ld .sl (Addr.add p16 5)) fun (v17 : Sl) =>
  bnd (f59_ownChoices v17) fun (r18 : Bool) =>
  bnd (drf x0) fun (p19 : Addr) =>
  bnd (ld .sl (Addr.add p19 6)) fun (v20 : Sl) =>
  bnd (f60_ownTexts v20) fun (r21 : Bool) =>
  bnd (drf x0) fun (p22 : Addr) =>
  bnd (ld .sl (Addr.add p22 7)) fun (v23 : Sl) =>
  bnd (f61_ownBits v23) fun (r24 : Bool) =>
  ret (cond (cond (cond (cond (cond (cond (cond r3 r6 false) r9 false) r12 false) r15 false) r18 false) r21 false) r24 false)
noncomputable def Af15_Book_Own : Ann := (.two .nil (.two .nil (.two .nil (.two .nil (.two .nil (.two .nil (.two .nil (.two .nil (.two .nil (.two .nil .nil))))))))))
theorem Cf15_Book_Own_ok : Cf15_Book_Own.Ok := mkC_ok mixed tysOk zerosOk eqsOk ⟨Sf54_ownInts, Sf55_ownNumbers, Sf56_ownOops, Sf57_ownDeeds, Sf58_ownFiles, Sf59_ownChoices, Sf60_ownTexts, Sf61_ownBits, trivial⟩ trivial
theorem Ef15_Book_Own (x : Option Addr) : evF Cf15_Book_Own Tryz.f15 73 .ptr .bool Af15_Book_Own x = f15_Book_Own x := by kernel_rfl
theorem Sf15_Book_Own : SoundF Tryz.prog 15 ⟨.ptr, .bool, fun x => f15_Book_Own x⟩ :=
  soundF_of Cf15_Book_Own_ok Tryz.func15 (by kernel_rfl) (by kernel_rfl) Ef15_Book_Own
noncomputable def Cf3_SchedDoes : Ctx := mkC Tryz.prog tys zeros eqs [(4, ⟨.unit, .bool, fun _ => f4_works⟩), (5, ⟨.unit, .ptr, fun _ => f5_sched_New⟩), (6, ⟨(.pair .ptr (.pair .ptr (.agg (.pair (.int .i64) (.pair (.int .i64) (.int .i64)))))), .bool, fun x => f6_does x.1 x.2.1 x.2.2⟩), (7, ⟨.ptr, (.int .i64), fun x => f7_Active x⟩), (8, ⟨.ptr, (.int .i64), fun x => f8_Active x⟩), (9, ⟨.ptr, .sl, fun x => f9_State x⟩), (10, ⟨.ptr, .sl, fun x => f10_State x⟩), (11, ⟨(.pair .sl .sl), .bool, fun x => f11_SameInts x.1 x.2⟩), (12, ⟨(.pair .ptr .sl), (.tup .unit), fun x => f12_Book_Ints x.1 x.2⟩), (13, ⟨.ptr, .sl, fun x => f13_Ready x⟩), (14, ⟨(.pair .ptr (.int .i64)), (.tup (.pair .sl (.pair (.int .i64) (.int .i64)))), fun x => f14_Waiting x.1 x.2⟩), (15, ⟨.ptr, .bool, fun x => f15_Book_Own x⟩)] []
/-- palaverpalaverlaw26.SchedDoes -/
noncomputable def f3_SchedDoes (x0 : Sl) : M Bool :=
  bnd f4_works fun (r1 : Bool) =>
  bnd f5_sched_New fun (r2 : Option Addr) =>
  bnd f5_sched_New fun (r3 : Option Addr) =>
  cnd (cond (Option.isNone r2) true (Option.isNone r3)) (
  ret false) (
  bnd (newC 32 [.int .i64 (0 : Int), .slice none 0 0, .slice none 0 0, .slice none 0 0, .int .i64 (0 : Int), .int .i64 (0 : Int), .int .i64 (0 : Int), .int .i64 (0 : Int), .int .i64 (0 : Int), .int .i64 (0 : Int), .int .i64 (0 : Int), .int .i64 (0 : Int), .int .i64 (0 : Int), .int .i64 (0 : Int), .int .i64 (0 : Int), .int .i64 (0 : Int), .int .i64 (0 : Int), .int .i64 (0 : Int), .int .i64 (0 : Int), .int .i64 (0 : Int), .int .i64 (0 : Int), .int .i64 (0 : Int), .int .i64 (0 : Int), .int .i64 (0 : Int), .int .i64 (0 : Int), .int .i64 (0 : Int), .int .i64 (0 : Int), .int .i64 (0 : Int), .int .i64 (0 : Int), .int .i64 (0 : Int), .int .i64 (0 : Int), .int .i64 (0 : Int), .int .i64 (0 : Int), .int .i64 (0 : Int), .int .i64 (0 : Int), .int .i64 (0 : Int), .int .i64 (0 : Int), .int .i64 (0 : Int), .int .i64 (0 : Int), .int .i64 (0 : Int), .int .i64 (0 : Int), .int .i64 (0 : Int), .int .i64 (0 : Int), .int .i64 (0 : Int), .int .i64 (0 : Int), .int .i64 (0 : Int), .int .i64 (0 : Int), .int .i64 (0 : Int), .int .i64 (0 : Int), .int .i64 (0 : Int), .int .i64 (0 : Int), .int .i64 (0 : Int), .int .i64 (0 : Int), .int .i64 (0 : Int), .int .i64 (0 : Int), .int .i64 (0 : Int), .int .i64 (0 : Int), .int .i64 (0 : Int), .int .i64 (0 : Int), .int .i64 (0 : Int), .int .i64 (0 : Int), .int .i64 (0 : Int), .int .i64 (0 : Int), .int .i64 (0 : Int), .int .i64 (0 : Int), .int .i64 (0 : Int), .int .i64 (0 : Int), .int .i64 (0 : Int), .int .i64 (0 : Int), .int .i64 (0 : Int)]) fun (p4 : Addr) =>
  loopM (fun (s5 : Int) =>
  cnd (decide (s5 < (x0.len : Int))) (
  bnd (ix 3 x0 s5) fun (p6 : Addr) =>
  bnd (ld (.agg (.pair (.int .i64) (.pair (.int .i64) (.int .i64)))) p6) fun (v7 : (Int × (Int × Int))) =>
  bnd (f6_does r2 (some p4) v7) fun (r8 : Bool) =>
  bnd (
  cnd (!r8) (
  ret true) (
  bnd (f7_Active r2) fun (r9 : Int) =>
  bnd (f8_Active (some p4)) fun (r10 : Int) =>
  ret (r9 != r10))) fun (b11 : Bool) =>
  cnd b11 (
  ret (Sum.inr false)) (
  ret (Sum.inl (IntKind.wrap .i64 (s5 + (1 : Int)))))) (
  bnd (
  bnd (f9_State r2) fun (r12 : Sl) =>
  bnd (f10_State (some p4)) fun (r13 : Sl) =>
  bnd (f11_SameInts r12 r13) fun (r14 : Bool) =>
  bnd (newC 49 [.slice none 0 0, .slice none 0 0, .slice none 0 0, .slice none 0 0, .slice none 0 0, .slice none 0 0, .slice none 0 0, .slice none 0 0]) fun (p15 : Addr) =>
  bnd (f12_Book_Ints (some p15) r12) fun (r16 : Unit) =>
  bnd (f9_State r2) fun (r17 : Sl) =>
  bnd (f12_Book_Ints (some p15) r17) fun (r18 : Unit) =>
  bnd (f13_Ready r2) fun (r19 : Sl) =>
  bnd (f12_Book_Ints (some p15) r19) fun (r20 : Unit) =>
  loopM (fun (s21 : Int) =>
  bnd (ld .sl (Addr.add p4 2)) fun (v22 : Sl) =>
  cnd (cond (decide (s21 ≤ (v22.len : Int))) (decide (s21 < (50 : Int))) false) (
  bnd (f14_Waiting r2 s21) fun (r23 : (Sl × (Int × Int))) =>
  bnd (f12_Book_Ints (some p15) r23.1) fun (r24 : Unit) =>
  ret (Sum.inl (IntKind.wrap .i64 (s21 + (1 : Int))))) (
  bnd (
  bnd (f15_Book_Own (some p15)) fun (r25 : Bool) =>
  bnd (f9_State r2) fun (r26 : Sl) =>
  bnd (f10_State (some p4)) fun (r27 : Sl) =>
  bnd (f11_SameInts r26 r27) fun (r28 : Bool) =>
  bnd (f7_Active r3) fun (r29 : Int) =>
  ret (cond (cond (cond (cond r1 r14 false) r25 false) r28 false) (r29 == (0 : Int)) false)) fun r30 =>
  ret (Sum.inr r30))) (1 : Int)) fun r31 =>
  ret (Sum.inr r31))) (0 : Int))
noncomputable def Af3_SchedDoes : Ann := (.two .nil (.two .nil (.two .nil (.two .nil (.two (.two .nil (.two (.two .nil .nil) .nil)) (.two .nil (.two (.two .nil (.one (.loop [(7, (.int .i64))] [2, 8, 33, 34, 35, 36, 37, 38, 39, 40, 41, 42, 43, 44, 45, 46, 47, 48, 49, 50, 51, 52, 53, 54] (.two (.two .nil (.two .nil .nil)) (.two (.one (.two .nil (.two .nil (.two (.two .nil .nil) .nil)))) .nil))))) (.two .nil (.two .nil (.two .nil (.two .nil (.two .nil (.two .nil (.two .nil (.two (.two .nil (.one (.loop [(13, (.int .i64))] [14, 15, 16, 75, 76, 77, 78, 79, 80, 81, 82, 83, 84, 85, 86, 87, 88, 89, 90, 91, 92, 93, 94, 95, 96, 97] (.two (.two .nil (.two .nil .nil)) (.two (.one (.two .nil .nil)) .nil))))) (.two .nil (.two .nil (.two .nil (.two .nil (.two .nil (.two .nil .nil)))))))))))))))))))))
theorem Cf3_SchedDoes_ok : Cf3_SchedDoes.Ok := mkC_ok mixed tysOk zerosOk eqsOk ⟨Sf4_works, Sf5_sched_New, Sf6_does, Sf7_Active, Sf8_Active, Sf9_State, Sf10_State, Sf11_SameInts, Sf12_Book_Ints, Sf13_Ready, Sf14_Waiting, Sf15_Book_Own, trivial⟩ trivial
theorem Ef3_SchedDoes (x : Sl) : evF Cf3_SchedDoes Tryz.f3 123 .sl .bool Af3_SchedDoes x = f3_SchedDoes x := by kernel_rfl
theorem Sf3_SchedDoes : SoundF Tryz.prog 3 ⟨.sl, .bool, fun x => f3_SchedDoes x⟩ :=
  soundF_of Cf3_SchedDoes_ok Tryz.func3 (by kernel_rfl) (by kernel_rfl) Ef3_SchedDoes
end Y
end Go.Proofs.YtkkdeljladihpaaGreat
