/-
  Part of the proof: L01. It states what the functions do; no further condition.
-/
import Derived.Test.YtoekfjgikicclaaL01a
set_option linter.unusedVariables false
set_option linter.unusedSimpArgs false
namespace Go.Proofs.Ytoekfjgikicclaa
set_option linter.unusedVariables false
open Go.Sh
set_option maxRecDepth 100000
noncomputable def Cf67_palaverref09_logic : Ctx := mkC Try.prog tys zeros eqs [(55, ⟨(.pair (.agg (.pair .bool .str)) (.agg (.pair .bool .str))), (.int .i64), fun x => f55_palaverref09_both x.1 x.2⟩), (57, ⟨(.pair .sl .bool), (.tup (.pair (.agg (.pair .bool .str)) (.int .i64))), fun x => f57_palaverref09_made x.1 x.2⟩), (64, ⟨.sl, .sl, fun x => f64_palaverref09_trim x⟩), (75, ⟨(.pair .sl .sl), .sl, fun x => f75_palaverref09_plus x.1 x.2⟩), (90, ⟨(.pair (.agg (.pair .bool .str)) (.int .i64)), .sl, fun x => f90_palaverref09_ones x.1 x.2⟩)] []
/-- palaverpalaverref09.logic -/
noncomputable def f67_palaverref09_logic (x0 : (Bool × ByteArray)) (x1 : (Bool × ByteArray)) (x2 : Int) : M ((Bool × ByteArray) × Int) :=
  bnd (newC 23 [.bool x0.1, .string x0.2]) fun (p1 : Addr) =>
  bnd (newC 23 [.bool x1.1, .string x1.2]) fun (p2 : Addr) =>
  bnd (newC 23 [.bool false, .string (ByteArray.mk #[])]) fun (p3 : Addr) =>
  bnd (ld (.agg (.pair .bool .str)) p1) fun (v4 : (Bool × ByteArray)) =>
  bnd (ld (.agg (.pair .bool .str)) p2) fun (v5 : (Bool × ByteArray)) =>
  bnd (f55_palaverref09_both v4 v5) fun (r6 : Int) =>
  cnd (r6 != (0 : Int)) (
  bnd (wrs p3 0 [.bool false, .string (ByteArray.mk #[])]) fun _ =>
  bnd (ld (.agg (.pair .bool .str)) p3) fun (v7 : (Bool × ByteArray)) =>
  ret (v7, r6)) (
  bnd (ld .str (Addr.add p1 1)) fun (v8 : ByteArray) =>
  bnd (ld .str (Addr.add p2 1)) fun (v9 : ByteArray) =>
  bnd (ld (.agg (.pair .bool .str)) p1) fun (v10 : (Bool × ByteArray)) =>
  bnd (f90_palaverref09_ones v10 (IntKind.wrap .i64 ((maxI (ByteArray.size v8 : Int) (ByteArray.size v9 : Int)) + (1 : Int)))) fun (r11 : Sl) =>
  bnd (ld (.agg (.pair .bool .str)) p2) fun (v12 : (Bool × ByteArray)) =>
  bnd (f90_palaverref09_ones v12 (IntKind.wrap .i64 ((maxI (ByteArray.size v8 : Int) (ByteArray.size v9 : Int)) + (1 : Int)))) fun (r13 : Sl) =>
  bnd (runV Try.prog .sl (Instr.makeSlice 61 (.int .i64 (IntKind.wrap .i64 ((maxI (ByteArray.size v8 : Int) (ByteArray.size v9 : Int)) + (1 : Int)))) (.int .i64 (IntKind.wrap .i64 ((maxI (ByteArray.size v8 : Int) (ByteArray.size v9 : Int)) + (1 : Int)))))) fun (v14 : Sl) =>
  loopM (fun (s15 : Int) =>
  cnd (decide (s15 < (IntKind.wrap .i64 ((maxI (ByteArray.size v8 : Int) (ByteArray.size v9 : Int)) + (1 : Int))))) (
  bnd (
  cnd (x2 == (0 : Int)) (
  bnd (
  bnd (ordM 67 14 (regionIn 14 Try.f67)) fun (o18 : List Nat) =>
  bnd (ix 1 r11 s15) fun (p19 : Addr) =>
  bnd (ld (.int .u8) p19) fun (v20 : Int) =>
  bnd (ix 1 r13 s15) fun (p21 : Addr) =>
  bnd (ld (.int .u8) p21) fun (v22 : Int) =>
  bnd (ix 1 v14 s15) fun (p23 : Addr) =>
  bnd (wrs p23 0 [.int .u8 (bAnd .u8 v20 v22)]) fun _ =>
  bnd (ret ()) fun _ =>
  ret ()) fun (s17 : Unit) =>
  ret ()) (
  bnd (
  cnd (x2 == (1 : Int)) (
  bnd (
  bnd (ordM 67 16 (regionIn 16 Try.f67)) fun (o26 : List Nat) =>
  bnd (ix 1 r11 s15) fun (p27 : Addr) =>
  bnd (ld (.int .u8) p27) fun (v28 : Int) =>
  bnd (ix 1 r13 s15) fun (p29 : Addr) =>
  bnd (ld (.int .u8) p29) fun (v30 : Int) =>
  bnd (ix 1 v14 s15) fun (p31 : Addr) =>
  bnd (wrs p31 0 [.int .u8 (bOr .u8 v28 v30)]) fun _ =>
  bnd (ret ()) fun _ =>
  ret ()) fun (s25 : Unit) =>
  ret ()) (
  bnd (
  bnd (ordM 67 12 (regionIn 12 Try.f67)) fun (o33 : List Nat) =>
  bnd (ix 1 r11 s15) fun (p34 : Addr) =>
  bnd (ld (.int .u8) p34) fun (v35 : Int) =>
  bnd (ix 1 r13 s15) fun (p36 : Addr) =>
  bnd (ld (.int .u8) p36) fun (v37 : Int) =>
  bnd (ix 1 v14 s15) fun (p38 : Addr) =>
  bnd (wrs p38 0 [.int .u8 (bXor .u8 v35 v37)]) fun _ =>
  bnd (ret ()) fun _ =>
  ret ()) fun (s32 : Unit) =>
  ret ())) fun (s24 : Unit) =>
  ret ())) fun (s16 : Unit) =>
  ret (Sum.inl (IntKind.wrap .i64 (s15 + (1 : Int))))) (
  bnd (
  bnd (ix 1 v14 (IntKind.wrap .i64 ((IntKind.wrap .i64 ((maxI (ByteArray.size v8 : Int) (ByteArray.size v9 : Int)) + (1 : Int))) - (1 : Int)))) fun (p39 : Addr) =>
  bnd (ld (.int .u8) p39) fun (v40 : Int) =>
  cnd (decide (v40 < (128 : Int))) (
  bnd (f57_palaverref09_made v14 false) fun (r41 : ((Bool × ByteArray) × Int)) =>
  bnd (wrs p3 0 [.bool r41.1.1, .string r41.1.2]) fun _ =>
  bnd (ld (.agg (.pair .bool .str)) p3) fun (v42 : (Bool × ByteArray)) =>
  ret (v42, r41.2)) (
  loopM (fun (s43 : Int) =>
  cnd (decide (s43 < (IntKind.wrap .i64 ((maxI (ByteArray.size v8 : Int) (ByteArray.size v9 : Int)) + (1 : Int))))) (
  bnd (ix 1 v14 s43) fun (p44 : Addr) =>
  bnd (ld (.int .u8) p44) fun (v45 : Int) =>
  bnd (ix 1 v14 s43) fun (p46 : Addr) =>
  bnd (wrs p46 0 [.int .u8 (IntKind.wrap .u8 ((255 : Int) - v45))]) fun _ =>
  ret (Sum.inl (IntKind.wrap .i64 (s43 + (1 : Int))))) (
  bnd (
  bnd (f64_palaverref09_trim v14) fun (r47 : Sl) =>
  bnd (runV Try.prog .sl (Instr.buildSlice 61 1 #[(0, .int .u8 (1 : Int))])) fun (v48 : Sl) =>
  bnd (f75_palaverref09_plus r47 v48) fun (r49 : Sl) =>
  bnd (f57_palaverref09_made r49 true) fun (r50 : ((Bool × ByteArray) × Int)) =>
  bnd (wrs p3 0 [.bool r50.1.1, .string r50.1.2]) fun _ =>
  bnd (ld (.agg (.pair .bool .str)) p3) fun (v51 : (Bool × ByteArray)) =>
  ret (v51, r50.2)) fun r52 =>
  ret (Sum.inr r52))) (0 : Int))) fun r53 =>
  ret (Sum.inr r53))) (0 : Int))
noncomputable def Af67_palaverref09_logic : Ann := (.two .nil (.two .nil (.two (.two .nil (.two (.two .nil .nil) .nil)) (.two .nil (.two .nil (.two .nil (.two .nil (.two (.two .nil (.one (.loop [(13, (.int .i64))] [38, 39, 40, 41, 42, 43, 44, 45, 46, 47, 48, 49, 50, 51, 52, 53, 54, 55, 56, 57, 58, 59, 60, 61, 62, 63, 64, 65, 66, 67, 68, 69, 70, 71, 72, 73, 74, 75, 76, 77, 78, 79, 80, 81, 82, 83] (.two (.two .nil (.two .nil .nil)) (.two (.one (.two .nil (.one (.two .nil (.join [] [44, 45, 46, 47, 48, 49, 50, 51, 52, 53, 54, 55, 58, 59, 60, 61, 62, 63, 64, 65, 66, 67, 68, 69, 70, 71, 72, 73, 74, 75, 76, 77, 78, 79, 80, 81, 82, 83] false (.two (.join [] [58, 59, 60, 61, 62, 63, 64, 65, 66, 67, 68, 69] false (.ord 67 [(0, 8190), (0, 8189), (0, 8187), (0, 8183), (12, 8163), (16, 8143), (0, 8127), (0, 8063), (192, 7743), (256, 7423), (544, 6623), (2047, 6140), (4095, 1023)] (.o 0 (.o 1 (.o 2 (.o 3 (.o 4 (.o 5 (.o 6 (.o 7 (.o 8 (.o 9 (.o 10 (.o 11 (.o 12 .done))))))))))))))) (.two .nil (.join [] [44, 45, 46, 47, 48, 49, 50, 51, 52, 53, 54, 55, 72, 73, 74, 75, 76, 77, 78, 79, 80, 81, 82, 83] false (.two (.join [] [72, 73, 74, 75, 76, 77, 78, 79, 80, 81, 82, 83] false (.ord 67 [(0, 8190), (0, 8189), (0, 8187), (0, 8183), (12, 8163), (16, 8143), (0, 8127), (0, 8063), (192, 7743), (256, 7423), (544, 6623), (2047, 6140), (4095, 1023)] (.o 0 (.o 1 (.o 2 (.o 3 (.o 4 (.o 5 (.o 6 (.o 7 (.o 8 (.o 9 (.o 10 (.o 11 (.o 12 .done))))))))))))))) (.join [] [44, 45, 46, 47, 48, 49, 50, 51, 52, 53, 54, 55] false (.ord 67 [(0, 8190), (0, 8189), (0, 8187), (0, 8183), (12, 8163), (16, 8143), (0, 8127), (0, 8063), (192, 7743), (256, 7423), (544, 6623), (2047, 6140), (4095, 1023)] (.o 0 (.o 1 (.o 2 (.o 3 (.o 4 (.o 5 (.o 6 (.o 7 (.o 8 (.o 9 (.o 10 (.o 11 (.o 12 .done)))))))))))))))))))))))) .nil))))) (.two (.two .nil (.two (.two .nil .nil) .nil)) (.two (.two .nil (.one (.loop [(14, (.int .i64))] [94, 95, 96, 97, 98, 99, 100, 101, 102, 103, 104, 105, 106] (.two (.two .nil (.two .nil .nil)) (.two (.one .nil) .nil))))) (.two .nil .nil)))))))))))
theorem Cf67_palaverref09_logic_ok : Cf67_palaverref09_logic.Ok := mkC_ok mixed tysOk zerosOk eqsOk ⟨Sf55_palaverref09_both, Sf57_palaverref09_made, Sf64_palaverref09_trim, Sf75_palaverref09_plus, Sf90_palaverref09_ones, trivial⟩ trivial
theorem Ef67_palaverref09_logic (x : ((Bool × ByteArray) × ((Bool × ByteArray) × Int))) : evF Cf67_palaverref09_logic Try.f67 114 (.pair (.agg (.pair .bool .str)) (.pair (.agg (.pair .bool .str)) (.int .i64))) (.tup (.pair (.agg (.pair .bool .str)) (.int .i64))) Af67_palaverref09_logic x = f67_palaverref09_logic x.1 x.2.1 x.2.2 := by kernel_rfl
theorem Sf67_palaverref09_logic : SoundF Try.prog 67 ⟨(.pair (.agg (.pair .bool .str)) (.pair (.agg (.pair .bool .str)) (.int .i64))), (.tup (.pair (.agg (.pair .bool .str)) (.int .i64))), fun x => f67_palaverref09_logic x.1 x.2.1 x.2.2⟩ :=
  soundF_of Cf67_palaverref09_logic_ok Try.func67 (by kernel_rfl) (by kernel_rfl) Ef67_palaverref09_logic
noncomputable def Cf25_palaverref09_And : Ctx := mkC Try.prog tys zeros eqs [(67, ⟨(.pair (.agg (.pair .bool .str)) (.pair (.agg (.pair .bool .str)) (.int .i64))), (.tup (.pair (.agg (.pair .bool .str)) (.int .i64))), fun x => f67_palaverref09_logic x.1 x.2.1 x.2.2⟩)] []
/-- palaverpalaverref09.And -/
noncomputable def f25_palaverref09_And (x0 : (Bool × ByteArray)) (x1 : (Bool × ByteArray)) : M ((Bool × ByteArray) × Int) :=
  bnd (newC 23 [.bool x0.1, .string x0.2]) fun (p1 : Addr) =>
  bnd (newC 23 [.bool x1.1, .string x1.2]) fun (p2 : Addr) =>
  bnd (newC 23 [.bool false, .string (ByteArray.mk #[])]) fun (p3 : Addr) =>
  bnd (ld (.agg (.pair .bool .str)) p1) fun (v4 : (Bool × ByteArray)) =>
  bnd (ld (.agg (.pair .bool .str)) p2) fun (v5 : (Bool × ByteArray)) =>
  bnd (f67_palaverref09_logic v4 v5 (0 : Int)) fun (r6 : ((Bool × ByteArray) × Int)) =>
  bnd (wrs p3 0 [.bool r6.1.1, .string r6.1.2]) fun _ =>
  bnd (ld (.agg (.pair .bool .str)) p3) fun (v7 : (Bool × ByteArray)) =>
  ret (v7, r6.2)
noncomputable def Af25_palaverref09_And : Ann := (.two .nil (.two .nil .nil))
theorem Cf25_palaverref09_And_ok : Cf25_palaverref09_And.Ok := mkC_ok mixed tysOk zerosOk eqsOk ⟨Sf67_palaverref09_logic, trivial⟩ trivial
theorem Ef25_palaverref09_And (x : ((Bool × ByteArray) × (Bool × ByteArray))) : evF Cf25_palaverref09_And Try.f25 11 (.pair (.agg (.pair .bool .str)) (.agg (.pair .bool .str))) (.tup (.pair (.agg (.pair .bool .str)) (.int .i64))) Af25_palaverref09_And x = f25_palaverref09_And x.1 x.2 := by kernel_rfl
theorem Sf25_palaverref09_And : SoundF Try.prog 25 ⟨(.pair (.agg (.pair .bool .str)) (.agg (.pair .bool .str))), (.tup (.pair (.agg (.pair .bool .str)) (.int .i64))), fun x => f25_palaverref09_And x.1 x.2⟩ :=
  soundF_of Cf25_palaverref09_And_ok Try.func25 (by kernel_rfl) (by kernel_rfl) Ef25_palaverref09_And
noncomputable def Cf26_largeint_Or : Ctx := mkC Try.prog tys zeros eqs [(65, ⟨(.pair (.agg (.pair .bool .str)) (.pair (.agg (.pair .bool .str)) .val)), (.tup (.pair (.agg (.pair .bool .str)) (.int .i64))), fun x => f65_largeint_logic x.1 x.2.1 x.2.2⟩)] []
/-- palaverlargeint.Or -/
noncomputable def f26_largeint_Or (x0 : (Bool × ByteArray)) (x1 : (Bool × ByteArray)) : M ((Bool × ByteArray) × Int) :=
  bnd (newC 23 [.bool x0.1, .string x0.2]) fun (p1 : Addr) =>
  bnd (newC 23 [.bool x1.1, .string x1.2]) fun (p2 : Addr) =>
  bnd (newC 23 [.bool false, .string (ByteArray.mk #[])]) fun (p3 : Addr) =>
  bnd (ld (.agg (.pair .bool .str)) p1) fun (v4 : (Bool × ByteArray)) =>
  bnd (ld (.agg (.pair .bool .str)) p2) fun (v5 : (Bool × ByteArray)) =>
  bnd (f65_largeint_logic v4 v5 (Value.func (.func 68) #[] #[])) fun (r6 : ((Bool × ByteArray) × Int)) =>
  bnd (wrs p3 0 [.bool r6.1.1, .string r6.1.2]) fun _ =>
  bnd (ld (.agg (.pair .bool .str)) p3) fun (v7 : (Bool × ByteArray)) =>
  ret (v7, r6.2)
noncomputable def Af26_largeint_Or : Ann := (.two .nil (.two .nil .nil))
theorem Cf26_largeint_Or_ok : Cf26_largeint_Or.Ok := mkC_ok mixed tysOk zerosOk eqsOk ⟨Sf65_largeint_logic, trivial⟩ trivial
theorem Ef26_largeint_Or (x : ((Bool × ByteArray) × (Bool × ByteArray))) : evF Cf26_largeint_Or Try.f26 11 (.pair (.agg (.pair .bool .str)) (.agg (.pair .bool .str))) (.tup (.pair (.agg (.pair .bool .str)) (.int .i64))) Af26_largeint_Or x = f26_largeint_Or x.1 x.2 := by kernel_rfl
theorem Sf26_largeint_Or : SoundF Try.prog 26 ⟨(.pair (.agg (.pair .bool .str)) (.agg (.pair .bool .str))), (.tup (.pair (.agg (.pair .bool .str)) (.int .i64))), fun x => f26_largeint_Or x.1 x.2⟩ :=
  soundF_of Cf26_largeint_Or_ok Try.func26 (by kernel_rfl) (by kernel_rfl) Ef26_largeint_Or
noncomputable def Cf27_palaverref09_Or : Ctx := mkC Try.prog tys zeros eqs [(67, ⟨(.pair (.agg (.pair .bool .str)) (.pair (.agg (.pair .bool .str)) (.int .i64))), (.tup (.pair (.agg (.pair .bool .str)) (.int .i64))), fun x => f67_palaverref09_logic x.1 x.2.1 x.2.2⟩)] []
/-- palaverpalaverref09.Or -/
noncomputable def f27_palaverref09_Or (x0 : (Bool × ByteArray)) (x1 : (Bool × ByteArray)) : M ((Bool × ByteArray) × Int) :=
  bnd (newC 23 [.bool x0.1, .string x0.2]) fun (p1 : Addr) =>
  bnd (newC 23 [.bool x1.1, .string x1.2]) fun (p2 : Addr) =>
  bnd (newC 23 [.bool false, .string (ByteArray.mk #[])]) fun (p3 : Addr) =>
  bnd (ld (.agg (.pair .bool .str)) p1) fun (v4 : (Bool × ByteArray)) =>
  bnd (ld (.agg (.pair .bool .str)) p2) fun (v5 : (Bool × ByteArray)) =>
  bnd (f67_palaverref09_logic v4 v5 (1 : Int)) fun (r6 : ((Bool × ByteArray) × Int)) =>
  bnd (wrs p3 0 [.bool r6.1.1, .string r6.1.2]) fun _ =>
  bnd (ld (.agg (.pair .bool .str)) p3) fun (v7 : (Bool × ByteArray)) =>
  ret (v7, r6.2)
noncomputable def Af27_palaverref09_Or : Ann := (.two .nil (.two .nil .nil))
theorem Cf27_palaverref09_Or_ok : Cf27_palaverref09_Or.Ok := mkC_ok mixed tysOk zerosOk eqsOk ⟨Sf67_palaverref09_logic, trivial⟩ trivial
theorem Ef27_palaverref09_Or (x : ((Bool × ByteArray) × (Bool × ByteArray))) : evF Cf27_palaverref09_Or Try.f27 11 (.pair (.agg (.pair .bool .str)) (.agg (.pair .bool .str))) (.tup (.pair (.agg (.pair .bool .str)) (.int .i64))) Af27_palaverref09_Or x = f27_palaverref09_Or x.1 x.2 := by kernel_rfl
theorem Sf27_palaverref09_Or : SoundF Try.prog 27 ⟨(.pair (.agg (.pair .bool .str)) (.agg (.pair .bool .str))), (.tup (.pair (.agg (.pair .bool .str)) (.int .i64))), fun x => f27_palaverref09_Or x.1 x.2⟩ :=
  soundF_of Cf27_palaverref09_Or_ok Try.func27 (by kernel_rfl) (by kernel_rfl) Ef27_palaverref09_Or
noncomputable def Cf28_largeint_Xor : Ctx := mkC Try.prog tys zeros eqs [(65, ⟨(.pair (.agg (.pair .bool .str)) (.pair (.agg (.pair .bool .str)) .val)), (.tup (.pair (.agg (.pair .bool .str)) (.int .i64))), fun x => f65_largeint_logic x.1 x.2.1 x.2.2⟩)] []
/-- palaverlargeint.Xor -/
noncomputable def f28_largeint_Xor (x0 : (Bool × ByteArray)) (x1 : (Bool × ByteArray)) : M ((Bool × ByteArray) × Int) :=
  bnd (newC 23 [.bool x0.1, .string x0.2]) fun (p1 : Addr) =>
  bnd (newC 23 [.bool x1.1, .string x1.2]) fun (p2 : Addr) =>
  bnd (newC 23 [.bool false, .string (ByteArray.mk #[])]) fun (p3 : Addr) =>
  bnd (ld (.agg (.pair .bool .str)) p1) fun (v4 : (Bool × ByteArray)) =>
  bnd (ld (.agg (.pair .bool .str)) p2) fun (v5 : (Bool × ByteArray)) =>
  bnd (f65_largeint_logic v4 v5 (Value.func (.func 69) #[] #[])) fun (r6 : ((Bool × ByteArray) × Int)) =>
  bnd (wrs p3 0 [.bool r6.1.1, .string r6.1.2]) fun _ =>
  bnd (ld (.agg (.pair .bool .str)) p3) fun (v7 : (Bool × ByteArray)) =>
  ret (v7, r6.2)
noncomputable def Af28_largeint_Xor : Ann := (.two .nil (.two .nil .nil))
theorem Cf28_largeint_Xor_ok : Cf28_largeint_Xor.Ok := mkC_ok mixed tysOk zerosOk eqsOk ⟨Sf65_largeint_logic, trivial⟩ trivial
theorem Ef28_largeint_Xor (x : ((Bool × ByteArray) × (Bool × ByteArray))) : evF Cf28_largeint_Xor Try.f28 11 (.pair (.agg (.pair .bool .str)) (.agg (.pair .bool .str))) (.tup (.pair (.agg (.pair .bool .str)) (.int .i64))) Af28_largeint_Xor x = f28_largeint_Xor x.1 x.2 := by kernel_rfl
theorem Sf28_largeint_Xor : SoundF Try.prog 28 ⟨(.pair (.agg (.pair .bool .str)) (.agg (.pair .bool .str))), (.tup (.pair (.agg (.pair .bool .str)) (.int .i64))), fun x => f28_largeint_Xor x.1 x.2⟩ :=
  soundF_of Cf28_largeint_Xor_ok Try.func28 (by kernel_rfl) (by kernel_rfl) Ef28_largeint_Xor
noncomputable def Cf29_palaverref09_Xor : Ctx := mkC Try.prog tys zeros eqs [(67, ⟨(.pair (.agg (.pair .bool .str)) (.pair (.agg (.pair .bool .str)) (.int .i64))), (.tup (.pair (.agg (.pair .bool .str)) (.int .i64))), fun x => f67_palaverref09_logic x.1 x.2.1 x.2.2⟩)] []
/-- palaverpalaverref09.Xor -/
noncomputable def f29_palaverref09_Xor (x0 : (Bool × ByteArray)) (x1 : (Bool × ByteArray)) : M ((Bool × ByteArray) × Int) :=
  bnd (newC 23 [.bool x0.1, .string x0.2]) fun (p1 : Addr) =>
  bnd (newC 23 [.bool x1.1, .string x1.2]) fun (p2 : Addr) =>
  bnd (newC 23 [.bool false, .string (ByteArray.mk #[])]) fun (p3 : Addr) =>
  bnd (ld (.agg (.pair .bool .str)) p1) fun (v4 : (Bool × ByteArray)) =>
  bnd (ld (.agg (.pair .bool .str)) p2) fun (v5 : (Bool × ByteArray)) =>
  bnd (f67_palaverref09_logic v4 v5 (2 : Int)) fun (r6 : ((Bool × ByteArray) × Int)) =>
  bnd (wrs p3 0 [.bool r6.1.1, .string r6.1.2]) fun _ =>
  bnd (ld (.agg (.pair .bool .str)) p3) fun (v7 : (Bool × ByteArray)) =>
  ret (v7, r6.2)
noncomputable def Af29_palaverref09_Xor : Ann := (.two .nil (.two .nil .nil))
theorem Cf29_palaverref09_Xor_ok : Cf29_palaverref09_Xor.Ok := mkC_ok mixed tysOk zerosOk eqsOk ⟨Sf67_palaverref09_logic, trivial⟩ trivial
theorem Ef29_palaverref09_Xor (x : ((Bool × ByteArray) × (Bool × ByteArray))) : evF Cf29_palaverref09_Xor Try.f29 11 (.pair (.agg (.pair .bool .str)) (.agg (.pair .bool .str))) (.tup (.pair (.agg (.pair .bool .str)) (.int .i64))) Af29_palaverref09_Xor x = f29_palaverref09_Xor x.1 x.2 := by kernel_rfl
theorem Sf29_palaverref09_Xor : SoundF Try.prog 29 ⟨(.pair (.agg (.pair .bool .str)) (.agg (.pair .bool .str))), (.tup (.pair (.agg (.pair .bool .str)) (.int .i64))), fun x => f29_palaverref09_Xor x.1 x.2⟩ :=
  soundF_of Cf29_palaverref09_Xor_ok Try.func29 (by kernel_rfl) (by kernel_rfl) Ef29_palaverref09_Xor
noncomputable def Cf74_palaverref09_power : Ctx := mkC Try.prog tys zeros eqs [] []
/-- palaverpalaverref09.power -/
noncomputable def f74_palaverref09_power (x0 : Int) : M Sl :=
  bnd (runV Try.prog .sl (Instr.makeSlice 61 (.int .i64 (IntKind.wrap .i64 ((IntKind.wrap .i64 (Int.tdiv x0 (8 : Int))) + (1 : Int)))) (.int .i64 (IntKind.wrap .i64 ((IntKind.wrap .i64 (Int.tdiv x0 (8 : Int))) + (1 : Int)))))) fun (v1 : Sl) =>
  bnd (cnt (IntKind.wrap .u64 (Int.tmod x0 (8 : Int)))) fun (c2 : Nat) =>
  bnd (ix 1 v1 (IntKind.wrap .i64 (Int.tdiv x0 (8 : Int)))) fun (p3 : Addr) =>
  bnd (wrs p3 0 [.int .u8 (shlI .u8 (1 : Int) c2)]) fun _ =>
  ret v1
noncomputable def Af74_palaverref09_power : Ann := (.two .nil (.two .nil (.two .nil (.two .nil .nil))))
theorem Cf74_palaverref09_power_ok : Cf74_palaverref09_power.Ok := mkC_ok mixed tysOk zerosOk eqsOk trivial trivial
theorem Ef74_palaverref09_power (x : Int) : evF Cf74_palaverref09_power Try.f74 17 (.int .i64) .sl Af74_palaverref09_power x = f74_palaverref09_power x := by kernel_rfl
theorem Sf74_palaverref09_power : SoundF Try.prog 74 ⟨(.int .i64), .sl, fun x => f74_palaverref09_power x⟩ :=
  soundF_of Cf74_palaverref09_power_ok Try.func74 (by kernel_rfl) (by kernel_rfl) Ef74_palaverref09_power
noncomputable def Cf73_palaverref09_times : Ctx := mkC Try.prog tys zeros eqs [(64, ⟨.sl, .sl, fun x => f64_palaverref09_trim x⟩), (92, ⟨(.pair .sl (.int .i64)), (.int .i64), fun x => f92_palaverref09_digit x.1 x.2⟩)] []
/-- palaverpalaverref09.times -/
noncomputable def f73_palaverref09_times (x0 : Sl) (x1 : Sl) : M Sl :=
  bnd (runV Try.prog .sl (Instr.makeSlice 98 (.int .i64 (IntKind.wrap .i64 ((IntKind.wrap .i64 ((x0.len : Int) + (x1.len : Int))) + (1 : Int)))) (.int .i64 (IntKind.wrap .i64 ((IntKind.wrap .i64 ((x0.len : Int) + (x1.len : Int))) + (1 : Int)))))) fun (v1 : Sl) =>
  loopM (fun (s2 : Int) =>
  cnd (decide (s2 < (x0.len : Int))) (
  loopM (fun (s3 : (Int × Int)) =>
  cnd (cond (decide (s3.2 < (x1.len : Int))) true (decide (s3.1 > (0 : Int)))) (
  bnd (
  bnd (ordM 73 9 (regionIn 9 Try.f73)) fun (o5 : List Nat) =>
  bnd (ix 1 v1 (IntKind.wrap .i64 (s2 + s3.2))) fun (p6 : Addr) =>
  bnd (ld (.int .i64) p6) fun (v7 : Int) =>
  bnd (ix 1 x0 s2) fun (p8 : Addr) =>
  bnd (ld (.int .u8) p8) fun (v9 : Int) =>
  bnd (f92_palaverref09_digit x1 s3.2) fun (r10 : Int) =>
  bnd (
  bnd (chk (.int .u8) p8 v9) fun _ =>
  bnd (chk (.int .i64) p6 v7) fun _ =>
  ret ()) fun _ =>
  ret (IntKind.wrap .i64 ((IntKind.wrap .i64 (v7 + (IntKind.wrap .i64 ((IntKind.wrap .i64 v9) * r10)))) + s3.1))) fun (s4 : Int) =>
  bnd (ix 1 v1 (IntKind.wrap .i64 (s2 + s3.2))) fun (p11 : Addr) =>
  bnd (wrs p11 0 [.int .i64 (Int.tmod s4 (256 : Int))]) fun _ =>
  ret (Sum.inl ((IntKind.wrap .i64 (Int.tdiv s4 (256 : Int))), (IntKind.wrap .i64 (s3.2 + (1 : Int)))))) (
  ret (Sum.inr (Sum.inl (IntKind.wrap .i64 (s2 + (1 : Int))))))) ((0 : Int), (0 : Int))) (
  bnd (
  loopM (fun (s12 : (Sl × Int)) =>
  cnd (decide (s12.2 < (v1.len : Int))) (
  bnd (ix 1 v1 s12.2) fun (p13 : Addr) =>
  bnd (ld (.int .i64) p13) fun (v14 : Int) =>
  bnd (runV Try.prog .sl (Instr.buildSlice 61 1 #[(0, .int .u8 (IntKind.wrap .u8 v14))])) fun (v15 : Sl) =>
  bnd (runV Try.prog .sl (Builtin.append_ #[61, 61] 61 #[.slice s12.1.a s12.1.len s12.1.cap, .slice v15.a v15.len v15.cap])) fun (v16 : Sl) =>
  ret (Sum.inl (v16, (IntKind.wrap .i64 (s12.2 + (1 : Int)))))) (
  bnd (
  bnd (f64_palaverref09_trim s12.1) fun (r17 : Sl) =>
  ret r17) fun r18 =>
  ret (Sum.inr r18))) ((Sl.mk none 0 0), (0 : Int))) fun r19 =>
  ret (Sum.inr r19))) (0 : Int)
noncomputable def Af73_palaverref09_times : Ann := (.two .nil (.two .nil (.two (.two .nil (.one (.loop [(6, (.int .i64))] [7, 8, 9, 19, 20, 21, 22, 23, 24, 25, 26, 27, 28, 29, 30, 31, 32, 33, 34, 35, 36, 37, 38, 39, 40, 41, 42, 43, 44, 45, 46, 47, 48, 49, 50, 51, 52, 53, 54, 55, 56, 57, 58, 59, 60, 61] (.two (.two .nil (.two .nil .nil)) (.two (.one (.two .nil (.two .nil (.one (.loop [(7, (.int .i64)), (8, (.int .i64))] [9, 25, 26, 27, 28, 29, 30, 31, 32, 33, 34, 35, 36, 37, 38, 39, 40, 41, 42, 43, 44, 45, 46, 47, 48, 49, 50, 51, 52, 53, 54, 55, 56, 57, 58, 59, 60, 61] (.two (.two .nil (.two .nil .nil)) (.two (.one (.two (.join [(9, (.int .i64))] [35, 36, 37, 38, 39, 40, 41, 42, 43, 44, 45, 46, 47, 48, 49, 50, 51, 52] false (.ord 73 [(0, 524286), (0, 524285), (0, 524283), (6, 524273), (9, 524262), (16, 524239), (0, 524223), (0, 524159), (192, 523839), (256, 523519), (512, 522751), (0, 522239), (0, 520191), (6144, 509951), (9216, 498687), (16416, 475103), (0, 458751), (98304, 294911), (262143, 131071)] (.o 0 (.o 1 (.o 2 (.o 3 (.o 4 (.o 5 (.o 6 (.o 7 (.o 8 (.o 9 (.o 10 (.o 11 (.o 12 (.o 16 (.o 13 (.o 14 (.o 15 (.o 17 (.o 18 .done))))))))))))))))))))) (.two .nil .nil))) .nil))))))) .nil))))) (.two .nil (.two (.two .nil (.one (.loop [(10, .sl), (11, (.int .i64))] [62, 63, 64, 65, 66, 67, 68, 69, 70, 71, 72, 73, 74, 75] (.two (.two .nil (.two .nil .nil)) (.two (.one .nil) .nil))))) (.two .nil .nil))))))
theorem Cf73_palaverref09_times_ok : Cf73_palaverref09_times.Ok := mkC_ok mixed tysOk zerosOk eqsOk ⟨Sf64_palaverref09_trim, Sf92_palaverref09_digit, trivial⟩ trivial
theorem Ef73_palaverref09_times (x : (Sl × Sl)) : evF Cf73_palaverref09_times Try.f73 78 (.pair .sl .sl) .sl Af73_palaverref09_times x = f73_palaverref09_times x.1 x.2 := by kernel_rfl
theorem Sf73_palaverref09_times : SoundF Try.prog 73 ⟨(.pair .sl .sl), .sl, fun x => f73_palaverref09_times x.1 x.2⟩ :=
  soundF_of Cf73_palaverref09_times_ok Try.func73 (by kernel_rfl) (by kernel_rfl) Ef73_palaverref09_times
noncomputable def Cf31_palaverref09_Shift : Ctx := mkC Try.prog tys zeros eqs [(43, ⟨(.agg (.pair .bool .str)), (.int .i64), fun x => f43_palaverref09_Check x⟩), (56, ⟨(.pair .sl .sl), (.tup (.pair .sl .sl)), fun x => f56_palaverref09_divide x.1 x.2⟩), (57, ⟨(.pair .sl .bool), (.tup (.pair (.agg (.pair .bool .str)) (.int .i64))), fun x => f57_palaverref09_made x.1 x.2⟩), (73, ⟨(.pair .sl .sl), .sl, fun x => f73_palaverref09_times x.1 x.2⟩), (74, ⟨(.int .i64), .sl, fun x => f74_palaverref09_power x⟩), (75, ⟨(.pair .sl .sl), .sl, fun x => f75_palaverref09_plus x.1 x.2⟩)] []
/-- palaverpalaverref09.Shift -/
noncomputable def f31_palaverref09_Shift (x0 : (Bool × ByteArray)) (x1 : Int) : M ((Bool × ByteArray) × Int) :=
  bnd (newC 23 [.bool x0.1, .string x0.2]) fun (p1 : Addr) =>
  bnd (newC 23 [.bool false, .string (ByteArray.mk #[])]) fun (p2 : Addr) =>
  bnd (ld (.agg (.pair .bool .str)) p1) fun (v3 : (Bool × ByteArray)) =>
  bnd (f43_palaverref09_Check v3) fun (r4 : Int) =>
  cnd (r4 != (0 : Int)) (
  bnd (wrs p2 0 [.bool false, .string (ByteArray.mk #[])]) fun _ =>
  bnd (ld (.agg (.pair .bool .str)) p2) fun (v5 : (Bool × ByteArray)) =>
  ret (v5, r4)) (
  cnd (cond (decide (x1 < (-32768 : Int))) true (decide (x1 > (32768 : Int)))) (
  bnd (wrs p2 0 [.bool false, .string (ByteArray.mk #[])]) fun _ =>
  bnd (ld (.agg (.pair .bool .str)) p2) fun (v6 : (Bool × ByteArray)) =>
  ret (v6, (91 : Int))) (
  cnd (decide (x1 ≥ (0 : Int))) (
  bnd (
  bnd (ordM 31 7 (regionIn 7 Try.f31)) fun (o8 : List Nat) =>
  bnd (ld .str (Addr.add p1 1)) fun (v9 : ByteArray) =>
  bnd (ld .bool (Addr.add p1 0)) fun (v10 : Bool) =>
  cnd (bef o8 2 4) (
  bnd (runV Try.prog .sl (convert 9 61 (.string v9))) fun (v11 : Sl) =>
  bnd (
  bnd (chk .bool (Addr.add p1 0) v10) fun _ =>
  ret ()) fun _ =>
  bnd (f74_palaverref09_power x1) fun (r12 : Sl) =>
  bnd (
  bnd (chk .bool (Addr.add p1 0) v10) fun _ =>
  ret ()) fun _ =>
  bnd (f73_palaverref09_times v11 r12) fun (r13 : Sl) =>
  bnd (
  bnd (chk .bool (Addr.add p1 0) v10) fun _ =>
  ret ()) fun _ =>
  bnd (f57_palaverref09_made r13 v10) fun (r14 : ((Bool × ByteArray) × Int)) =>
  bnd (ret ()) fun _ =>
  bnd (wrs p2 0 [.bool r14.1.1, .string r14.1.2]) fun _ =>
  bnd (ret ()) fun _ =>
  ret r14.2) (
  bnd (f74_palaverref09_power x1) fun (r15 : Sl) =>
  bnd (
  bnd (chk .bool (Addr.add p1 0) v10) fun _ =>
  bnd (chk .str (Addr.add p1 1) v9) fun _ =>
  ret ()) fun _ =>
  bnd (runV Try.prog .sl (convert 9 61 (.string v9))) fun (v16 : Sl) =>
  bnd (
  bnd (chk .bool (Addr.add p1 0) v10) fun _ =>
  ret ()) fun _ =>
  bnd (f73_palaverref09_times v16 r15) fun (r17 : Sl) =>
  bnd (
  bnd (chk .bool (Addr.add p1 0) v10) fun _ =>
  ret ()) fun _ =>
  bnd (f57_palaverref09_made r17 v10) fun (r18 : ((Bool × ByteArray) × Int)) =>
  bnd (ret ()) fun _ =>
  bnd (wrs p2 0 [.bool r18.1.1, .string r18.1.2]) fun _ =>
  bnd (ret ()) fun _ =>
  ret r18.2)) fun (s7 : Int) =>
  bnd (ld (.agg (.pair .bool .str)) p2) fun (v19 : (Bool × ByteArray)) =>
  ret (v19, s7)) (
  bnd (
  bnd (ordM 31 8 (regionIn 8 Try.f31)) fun (o21 : List Nat) =>
  bnd (ld .str (Addr.add p1 1)) fun (v22 : ByteArray) =>
  cnd (bef o21 2 5) (
  bnd (runV Try.prog .sl (convert 9 61 (.string v22))) fun (v23 : Sl) =>
  bnd (ret ()) fun _ =>
  bnd (f74_palaverref09_power (IntKind.wrap .i64 (0 - x1))) fun (r24 : Sl) =>
  bnd (ret ()) fun _ =>
  bnd (f56_palaverref09_divide v23 r24) fun (r25 : (Sl × Sl)) =>
  bnd (ret ()) fun _ =>
  ret (r25.1, r25.2)) (
  bnd (f74_palaverref09_power (IntKind.wrap .i64 (0 - x1))) fun (r26 : Sl) =>
  bnd (
  bnd (chk .str (Addr.add p1 1) v22) fun _ =>
  ret ()) fun _ =>
  bnd (runV Try.prog .sl (convert 9 61 (.string v22))) fun (v27 : Sl) =>
  bnd (ret ()) fun _ =>
  bnd (f56_palaverref09_divide v27 r26) fun (r28 : (Sl × Sl)) =>
  bnd (ret ()) fun _ =>
  ret (r28.1, r28.2))) fun (s20 : (Sl × Sl)) =>
  bnd (ld .bool (Addr.add p1 0)) fun (v29 : Bool) =>
  bnd (
  cnd (cond v29 (decide ((s20.2.len : Int) > (0 : Int))) false) (
  bnd (runV Try.prog .sl (Instr.buildSlice 61 1 #[(0, .int .u8 (1 : Int))])) fun (v31 : Sl) =>
  bnd (f75_palaverref09_plus s20.1 v31) fun (r32 : Sl) =>
  ret r32) (
  ret s20.1)) fun (s30 : Sl) =>
  bnd (ld .bool (Addr.add p1 0)) fun (v33 : Bool) =>
  bnd (f57_palaverref09_made s30 v33) fun (r34 : ((Bool × ByteArray) × Int)) =>
  bnd (wrs p2 0 [.bool r34.1.1, .string r34.1.2]) fun _ =>
  bnd (ld (.agg (.pair .bool .str)) p2) fun (v35 : (Bool × ByteArray)) =>
  ret (v35, r34.2))))
noncomputable def Af31_palaverref09_Shift : Ann := (.two .nil (.two .nil (.two (.one (.two .nil (.two (.two .nil .nil) (.two .nil (.two (.two .nil .nil) (.two .nil (.two (.two (.join [(5, (.int .i64))] [27, 28, 29, 30, 31, 32, 33, 34, 35, 36, 37] false (.ord 31 [(0, 8190), (1, 8188), (2, 8185), (0, 8183), (8, 8167), (20, 8139), (0, 8127), (64, 7999), (160, 7775), (256, 7423), (256, 6911), (2047, 5631), (4095, 3071)] (.o 0 (.o 1 (.o 3 (.o 6 (.o 7 (.f 2 4 (.o 4 (.o 5 (.o 8 (.o 9 (.o 10 (.o 11 (.o 12 .done))))))) (.o 2 (.o 5 (.o 8 (.o 9 (.o 10 (.o 11 (.o 12 .done))))))))))))))) .nil) .nil))))))) (.two (.join [(7, .sl), (8, .sl)] [38, 39, 40, 41, 42, 43, 44, 45, 46, 47] false (.ord 31 [(0, 4094), (1, 4092), (2, 4089), (0, 4087), (8, 4071), (16, 4047), (36, 3995), (64, 3903), (128, 3711), (128, 3455), (511, 2815), (2047, 1535)] (.o 0 (.o 1 (.o 3 (.o 4 (.f 2 5 (.o 5 (.o 6 (.o 7 (.o 8 (.o 9 (.o 10 (.o 11 .done))))))) (.o 2 (.o 6 (.o 7 (.o 8 (.o 9 (.o 10 (.o 11 .done)))))))))))))) (.two (.two .nil (.join [(7, .sl)] [55, 56, 57] false (.two .nil .nil))) (.two .nil .nil))))))
theorem Cf31_palaverref09_Shift_ok : Cf31_palaverref09_Shift.Ok := mkC_ok mixed tysOk zerosOk eqsOk ⟨Sf43_palaverref09_Check, Sf56_palaverref09_divide, Sf57_palaverref09_made, Sf73_palaverref09_times, Sf74_palaverref09_power, Sf75_palaverref09_plus, trivial⟩ trivial
theorem Ef31_palaverref09_Shift (x : ((Bool × ByteArray) × Int)) : evF Cf31_palaverref09_Shift Try.f31 64 (.pair (.agg (.pair .bool .str)) (.int .i64)) (.tup (.pair (.agg (.pair .bool .str)) (.int .i64))) Af31_palaverref09_Shift x = f31_palaverref09_Shift x.1 x.2 := by kernel_rfl
theorem Sf31_palaverref09_Shift : SoundF Try.prog 31 ⟨(.pair (.agg (.pair .bool .str)) (.int .i64)), (.tup (.pair (.agg (.pair .bool .str)) (.int .i64))), fun x => f31_palaverref09_Shift x.1 x.2⟩ :=
  soundF_of Cf31_palaverref09_Shift_ok Try.func31 (by kernel_rfl) (by kernel_rfl) Ef31_palaverref09_Shift
noncomputable def Cf32_largeint_Bits : Ctx := mkC Try.prog tys zeros eqs [(34, ⟨(.agg (.pair .bool .str)), (.int .i64), fun x => f34_largeint_Check x⟩), (49, ⟨(.agg (.pair .bool .str)), (.agg (.pair .sl .bool)), fun x => f49_largeint_of x⟩), (76, ⟨.sl, (.int .i64), fun x => f76_largeint_nat_long x⟩)] []
/-- palaverlargeint.Bits -/
noncomputable def f32_largeint_Bits (x0 : (Bool × ByteArray)) : M Int :=
  bnd (newC 23 [.bool x0.1, .string x0.2]) fun (p1 : Addr) =>
  bnd (ld (.agg (.pair .bool .str)) p1) fun (v2 : (Bool × ByteArray)) =>
  bnd (f34_largeint_Check v2) fun (r3 : Int) =>
  cnd (r3 != (0 : Int)) (
  ret (0 : Int)) (
  bnd (ld (.agg (.pair .bool .str)) p1) fun (v4 : (Bool × ByteArray)) =>
  bnd (f49_largeint_of v4) fun (r5 : (Sl × Bool)) =>
  bnd (f76_largeint_nat_long r5.1) fun (r6 : Int) =>
  ret r6)
noncomputable def Af32_largeint_Bits : Ann := (.two .nil (.two (.two .nil (.two (.two .nil .nil) .nil)) (.two .nil .nil)))
theorem Cf32_largeint_Bits_ok : Cf32_largeint_Bits.Ok := mkC_ok mixed tysOk zerosOk eqsOk ⟨Sf34_largeint_Check, Sf49_largeint_of, Sf76_largeint_nat_long, trivial⟩ trivial
theorem Ef32_largeint_Bits (x : (Bool × ByteArray)) : evF Cf32_largeint_Bits Try.f32 10 (.agg (.pair .bool .str)) (.int .i64) Af32_largeint_Bits x = f32_largeint_Bits x := by kernel_rfl
theorem Sf32_largeint_Bits : SoundF Try.prog 32 ⟨(.agg (.pair .bool .str)), (.int .i64), fun x => f32_largeint_Bits x⟩ :=
  soundF_of Cf32_largeint_Bits_ok Try.func32 (by kernel_rfl) (by kernel_rfl) Ef32_largeint_Bits
noncomputable def Cf33_palaverref09_Bits : Ctx := mkC Try.prog tys zeros eqs [(43, ⟨(.agg (.pair .bool .str)), (.int .i64), fun x => f43_palaverref09_Check x⟩)] []
/-- palaverpalaverref09.Bits -/
noncomputable def f33_palaverref09_Bits (x0 : (Bool × ByteArray)) : M Int :=
  bnd (newC 23 [.bool x0.1, .string x0.2]) fun (p1 : Addr) =>
  bnd (ld .str (Addr.add p1 1)) fun (v2 : ByteArray) =>
  bnd (
  cnd ((ByteArray.size v2 : Int) == (0 : Int)) (
  ret true) (
  bnd (ld (.agg (.pair .bool .str)) p1) fun (v3 : (Bool × ByteArray)) =>
  bnd (f43_palaverref09_Check v3) fun (r4 : Int) =>
  ret (r4 != (0 : Int)))) fun (b5 : Bool) =>
  cnd b5 (
  ret (0 : Int)) (
  bnd (ld .str (Addr.add p1 1)) fun (v6 : ByteArray) =>
  bnd (ixS v6 (IntKind.wrap .i64 ((ByteArray.size v2 : Int) - (1 : Int)))) fun (v7 : Int) =>
  loopM (fun (s8 : (Int × Int)) =>
  cnd (decide (s8.2 > (0 : Int))) (
  ret (Sum.inl ((IntKind.wrap .i64 (s8.1 + (1 : Int))), (IntKind.wrap .i64 (Int.tdiv s8.2 (2 : Int)))))) (
  ret (Sum.inr s8.1))) ((IntKind.wrap .i64 ((8 : Int) * (IntKind.wrap .i64 ((ByteArray.size v2 : Int) - (1 : Int))))), (IntKind.wrap .i64 v7)))
noncomputable def Af33_palaverref09_Bits : Ann := (.two .nil (.two .nil (.two (.two .nil (.two (.two .nil .nil) .nil)) (.two .nil (.two (.two .nil (.one (.loop [(4, (.int .i64)), (5, (.int .i64))] [25, 26, 27, 28, 29, 30] (.two (.two .nil (.two .nil .nil)) (.two (.one .nil) .nil))))) (.two .nil .nil))))))
theorem Cf33_palaverref09_Bits_ok : Cf33_palaverref09_Bits.Ok := mkC_ok mixed tysOk zerosOk eqsOk ⟨Sf43_palaverref09_Check, trivial⟩ trivial
theorem Ef33_palaverref09_Bits (x : (Bool × ByteArray)) : evF Cf33_palaverref09_Bits Try.f33 32 (.agg (.pair .bool .str)) (.int .i64) Af33_palaverref09_Bits x = f33_palaverref09_Bits x := by kernel_rfl
theorem Sf33_palaverref09_Bits : SoundF Try.prog 33 ⟨(.agg (.pair .bool .str)), (.int .i64), fun x => f33_palaverref09_Bits x⟩ :=
  soundF_of Cf33_palaverref09_Bits_ok Try.func33 (by kernel_rfl) (by kernel_rfl) Ef33_palaverref09_Bits
noncomputable def Cf6_palaverlaw09_LargeBits : Ctx := mkC Try.prog tys zeros eqs [(12, ⟨.unit, .bool, fun _ => f12_palaverlaw09_works⟩), (13, ⟨(.pair (.agg (.pair .bool .str)) (.agg (.pair .bool .str))), .bool, fun x => f13_palaverlaw09_far x.1 x.2⟩), (24, ⟨(.pair (.agg (.pair .bool .str)) (.agg (.pair .bool .str))), (.tup (.pair (.agg (.pair .bool .str)) (.int .i64))), fun x => f24_largeint_And x.1 x.2⟩), (25, ⟨(.pair (.agg (.pair .bool .str)) (.agg (.pair .bool .str))), (.tup (.pair (.agg (.pair .bool .str)) (.int .i64))), fun x => f25_palaverref09_And x.1 x.2⟩), (26, ⟨(.pair (.agg (.pair .bool .str)) (.agg (.pair .bool .str))), (.tup (.pair (.agg (.pair .bool .str)) (.int .i64))), fun x => f26_largeint_Or x.1 x.2⟩), (27, ⟨(.pair (.agg (.pair .bool .str)) (.agg (.pair .bool .str))), (.tup (.pair (.agg (.pair .bool .str)) (.int .i64))), fun x => f27_palaverref09_Or x.1 x.2⟩), (28, ⟨(.pair (.agg (.pair .bool .str)) (.agg (.pair .bool .str))), (.tup (.pair (.agg (.pair .bool .str)) (.int .i64))), fun x => f28_largeint_Xor x.1 x.2⟩), (29, ⟨(.pair (.agg (.pair .bool .str)) (.agg (.pair .bool .str))), (.tup (.pair (.agg (.pair .bool .str)) (.int .i64))), fun x => f29_palaverref09_Xor x.1 x.2⟩), (30, ⟨(.pair (.agg (.pair .bool .str)) (.int .i64)), (.tup (.pair (.agg (.pair .bool .str)) (.int .i64))), fun x => f30_largeint_Shift x.1 x.2⟩), (31, ⟨(.pair (.agg (.pair .bool .str)) (.int .i64)), (.tup (.pair (.agg (.pair .bool .str)) (.int .i64))), fun x => f31_palaverref09_Shift x.1 x.2⟩), (32, ⟨(.agg (.pair .bool .str)), (.int .i64), fun x => f32_largeint_Bits x⟩), (33, ⟨(.agg (.pair .bool .str)), (.int .i64), fun x => f33_palaverref09_Bits x⟩)] []
/-- palaverpalaverlaw09.LargeBits -/
noncomputable def f6_palaverlaw09_LargeBits (x0 : (Bool × ByteArray)) (x1 : (Bool × ByteArray)) (x2 : Int) : M Bool :=
  bnd (newC 23 [.bool x0.1, .string x0.2]) fun (p1 : Addr) =>
  bnd (newC 23 [.bool x1.1, .string x1.2]) fun (p2 : Addr) =>
  bnd f12_palaverlaw09_works fun (r3 : Bool) =>
  bnd (ld (.agg (.pair .bool .str)) p1) fun (v4 : (Bool × ByteArray)) =>
  bnd (ld (.agg (.pair .bool .str)) p2) fun (v5 : (Bool × ByteArray)) =>
  bnd (f13_palaverlaw09_far v4 v5) fun (r6 : Bool) =>
  cnd r6 (
  ret r3) (
  bnd (ld (.agg (.pair .bool .str)) p1) fun (v7 : (Bool × ByteArray)) =>
  bnd (ld (.agg (.pair .bool .str)) p2) fun (v8 : (Bool × ByteArray)) =>
  bnd (f24_largeint_And v7 v8) fun (r9 : ((Bool × ByteArray) × Int)) =>
  bnd (newC 23 [.bool false, .string (ByteArray.mk #[])]) fun (p10 : Addr) =>
  bnd (wrs p10 0 [.bool r9.1.1, .string r9.1.2]) fun _ =>
  bnd (ld (.agg (.pair .bool .str)) p1) fun (v11 : (Bool × ByteArray)) =>
  bnd (ld (.agg (.pair .bool .str)) p2) fun (v12 : (Bool × ByteArray)) =>
  bnd (f25_palaverref09_And v11 v12) fun (r13 : ((Bool × ByteArray) × Int)) =>
  bnd (newC 23 [.bool false, .string (ByteArray.mk #[])]) fun (p14 : Addr) =>
  bnd (wrs p14 0 [.bool r13.1.1, .string r13.1.2]) fun _ =>
  bnd (ld (.agg (.pair .bool .str)) p10) fun (v15 : (Bool × ByteArray)) =>
  bnd (ld (.agg (.pair .bool .str)) p14) fun (v16 : (Bool × ByteArray)) =>
  bnd (ld (.agg (.pair .bool .str)) p1) fun (v17 : (Bool × ByteArray)) =>
  bnd (ld (.agg (.pair .bool .str)) p2) fun (v18 : (Bool × ByteArray)) =>
  bnd (f26_largeint_Or v17 v18) fun (r19 : ((Bool × ByteArray) × Int)) =>
  bnd (wrs p10 0 [.bool r19.1.1, .string r19.1.2]) fun _ =>
  bnd (ld (.agg (.pair .bool .str)) p1) fun (v20 : (Bool × ByteArray)) =>
  bnd (ld (.agg (.pair .bool .str)) p2) fun (v21 : (Bool × ByteArray)) =>
  bnd (f27_palaverref09_Or v20 v21) fun (r22 : ((Bool × ByteArray) × Int)) =>
  bnd (wrs p14 0 [.bool r22.1.1, .string r22.1.2]) fun _ =>
  bnd (ld (.agg (.pair .bool .str)) p10) fun (v23 : (Bool × ByteArray)) =>
  bnd (ld (.agg (.pair .bool .str)) p14) fun (v24 : (Bool × ByteArray)) =>
  bnd (ld (.agg (.pair .bool .str)) p1) fun (v25 : (Bool × ByteArray)) =>
  bnd (ld (.agg (.pair .bool .str)) p2) fun (v26 : (Bool × ByteArray)) =>
  bnd (f28_largeint_Xor v25 v26) fun (r27 : ((Bool × ByteArray) × Int)) =>
  bnd (wrs p10 0 [.bool r27.1.1, .string r27.1.2]) fun _ =>
  bnd (ld (.agg (.pair .bool .str)) p1) fun (v28 : (Bool × ByteArray)) =>
  bnd (ld (.agg (.pair .bool .str)) p2) fun (v29 : (Bool × ByteArray)) =>
  bnd (f29_palaverref09_Xor v28 v29) fun (r30 : ((Bool × ByteArray) × Int)) =>
  bnd (wrs p14 0 [.bool r30.1.1, .string r30.1.2]) fun _ =>
  bnd (ld (.agg (.pair .bool .str)) p10) fun (v31 : (Bool × ByteArray)) =>
  bnd (ld (.agg (.pair .bool .str)) p14) fun (v32 : (Bool × ByteArray)) =>
  bnd (ld (.agg (.pair .bool .str)) p1) fun (v33 : (Bool × ByteArray)) =>
  bnd (f30_largeint_Shift v33 x2) fun (r34 : ((Bool × ByteArray) × Int)) =>
  bnd (wrs p10 0 [.bool r34.1.1, .string r34.1.2]) fun _ =>
  bnd (ld (.agg (.pair .bool .str)) p1) fun (v35 : (Bool × ByteArray)) =>
  bnd (f31_palaverref09_Shift v35 x2) fun (r36 : ((Bool × ByteArray) × Int)) =>
  bnd (wrs p14 0 [.bool r36.1.1, .string r36.1.2]) fun _ =>
  bnd (ld (.agg (.pair .bool .str)) p1) fun (v37 : (Bool × ByteArray)) =>
  bnd (f32_largeint_Bits v37) fun (r38 : Int) =>
  bnd (ld (.agg (.pair .bool .str)) p1) fun (v39 : (Bool × ByteArray)) =>
  bnd (f33_palaverref09_Bits v39) fun (r40 : Int) =>
  bnd (
  cnd (cond (cond (cond r3 (cond ((v15.1 == v16.1) && (strEq v15.2 v16.2)) (r9.2 == r13.2) false) false) (cond ((v23.1 == v24.1) && (strEq v23.2 v24.2)) (r19.2 == r22.2) false) false) (cond ((v31.1 == v32.1) && (strEq v31.2 v32.2)) (r27.2 == r30.2) false) false) (
  bnd (ld (.agg (.pair .bool .str)) p10) fun (v41 : (Bool × ByteArray)) =>
  bnd (ld (.agg (.pair .bool .str)) p14) fun (v42 : (Bool × ByteArray)) =>
  ret ((v41.1 == v42.1) && (strEq v41.2 v42.2))) (
  ret false)) fun (b43 : Bool) =>
  ret (cond (cond b43 (r34.2 == r36.2) false) (r38 == r40) false))
noncomputable def Af6_palaverlaw09_LargeBits : Ann := (.two .nil (.two .nil (.two .nil (.two (.two .nil (.two (.two .nil .nil) .nil)) (.two .nil (.two .nil (.two .nil (.two .nil (.two .nil (.two .nil (.two .nil (.two .nil (.two .nil (.two .nil (.two .nil (.two .nil (.two .nil (.two .nil .nil))))))))))))))))))
theorem Cf6_palaverlaw09_LargeBits_ok : Cf6_palaverlaw09_LargeBits.Ok := mkC_ok mixed tysOk zerosOk eqsOk ⟨Sf12_palaverlaw09_works, Sf13_palaverlaw09_far, Sf24_largeint_And, Sf25_palaverref09_And, Sf26_largeint_Or, Sf27_palaverref09_Or, Sf28_largeint_Xor, Sf29_palaverref09_Xor, Sf30_largeint_Shift, Sf31_palaverref09_Shift, Sf32_largeint_Bits, Sf33_palaverref09_Bits, trivial⟩ trivial
theorem Ef6_palaverlaw09_LargeBits (x : ((Bool × ByteArray) × ((Bool × ByteArray) × Int))) : evF Cf6_palaverlaw09_LargeBits Try.f6 125 (.pair (.agg (.pair .bool .str)) (.pair (.agg (.pair .bool .str)) (.int .i64))) .bool Af6_palaverlaw09_LargeBits x = f6_palaverlaw09_LargeBits x.1 x.2.1 x.2.2 := by kernel_rfl
theorem Sf6_palaverlaw09_LargeBits : SoundF Try.prog 6 ⟨(.pair (.agg (.pair .bool .str)) (.pair (.agg (.pair .bool .str)) (.int .i64))), .bool, fun x => f6_palaverlaw09_LargeBits x.1 x.2.1 x.2.2⟩ :=
  soundF_of Cf6_palaverlaw09_LargeBits_ok Try.func6 (by kernel_rfl) (by kernel_rfl) Ef6_palaverlaw09_LargeBits
noncomputable def Cf35_largeint_Add : Ctx := mkC Try.prog tys zeros eqs [(48, ⟨(.agg (.pair .sl .bool)), (.tup (.pair (.agg (.pair .bool .str)) (.int .i64))), fun x => f48_largeint_told x⟩), (50, ⟨(.pair (.agg (.pair .sl .bool)) (.agg (.pair .sl .bool))), (.agg (.pair .sl .bool)), fun x => f50_largeint_number_add x.1 x.2⟩), (52, ⟨(.pair (.agg (.pair .bool .str)) (.agg (.pair .bool .str))), (.tup (.pair (.agg (.pair .sl .bool)) (.pair (.agg (.pair .sl .bool)) (.int .i64)))), fun x => f52_largeint_two x.1 x.2⟩)] []
/-- palaverlargeint.Add -/
noncomputable def f35_largeint_Add (x0 : (Bool × ByteArray)) (x1 : (Bool × ByteArray)) : M ((Bool × ByteArray) × Int) :=
  bnd (newC 23 [.bool x0.1, .string x0.2]) fun (p1 : Addr) =>
  bnd (newC 23 [.bool x1.1, .string x1.2]) fun (p2 : Addr) =>
  bnd (newC 23 [.bool false, .string (ByteArray.mk #[])]) fun (p3 : Addr) =>
  bnd (ld (.agg (.pair .bool .str)) p1) fun (v4 : (Bool × ByteArray)) =>
  bnd (ld (.agg (.pair .bool .str)) p2) fun (v5 : (Bool × ByteArray)) =>
  bnd (f52_largeint_two v4 v5) fun (r6 : ((Sl × Bool) × ((Sl × Bool) × Int))) =>
  bnd (newC 52 [.slice none 0 0, .bool false]) fun (p7 : Addr) =>
  bnd (newC 52 [.slice none 0 0, .bool false]) fun (p8 : Addr) =>
  bnd (wrs p7 0 [.slice r6.1.1.a r6.1.1.len r6.1.1.cap, .bool r6.1.2]) fun _ =>
  bnd (wrs p8 0 [.slice r6.2.1.1.a r6.2.1.1.len r6.2.1.1.cap, .bool r6.2.1.2]) fun _ =>
  cnd (r6.2.2 != (0 : Int)) (
  bnd (wrs p3 0 [.bool false, .string (ByteArray.mk #[])]) fun _ =>
  bnd (ld (.agg (.pair .bool .str)) p3) fun (v9 : (Bool × ByteArray)) =>
  ret (v9, r6.2.2)) (
  bnd (ld (.agg (.pair .sl .bool)) p7) fun (v10 : (Sl × Bool)) =>
  bnd (ld (.agg (.pair .sl .bool)) p8) fun (v11 : (Sl × Bool)) =>
  bnd (f50_largeint_number_add v10 v11) fun (r12 : (Sl × Bool)) =>
  bnd (f48_largeint_told r12) fun (r13 : ((Bool × ByteArray) × Int)) =>
  bnd (wrs p3 0 [.bool r13.1.1, .string r13.1.2]) fun _ =>
  bnd (ld (.agg (.pair .bool .str)) p3) fun (v14 : (Bool × ByteArray)) =>
  ret (v14, r13.2))
noncomputable def Af35_largeint_Add : Ann := (.two .nil (.two .nil (.two (.two .nil (.two (.two .nil .nil) .nil)) (.two .nil .nil))))
theorem Cf35_largeint_Add_ok : Cf35_largeint_Add.Ok := mkC_ok mixed tysOk zerosOk eqsOk ⟨Sf48_largeint_told, Sf50_largeint_number_add, Sf52_largeint_two, trivial⟩ trivial
theorem Ef35_largeint_Add (x : ((Bool × ByteArray) × (Bool × ByteArray))) : evF Cf35_largeint_Add Try.f35 26 (.pair (.agg (.pair .bool .str)) (.agg (.pair .bool .str))) (.tup (.pair (.agg (.pair .bool .str)) (.int .i64))) Af35_largeint_Add x = f35_largeint_Add x.1 x.2 := by kernel_rfl
theorem Sf35_largeint_Add : SoundF Try.prog 35 ⟨(.pair (.agg (.pair .bool .str)) (.agg (.pair .bool .str))), (.tup (.pair (.agg (.pair .bool .str)) (.int .i64))), fun x => f35_largeint_Add x.1 x.2⟩ :=
  soundF_of Cf35_largeint_Add_ok Try.func35 (by kernel_rfl) (by kernel_rfl) Ef35_largeint_Add
noncomputable def Cf36_largeint_Sub : Ctx := mkC Try.prog tys zeros eqs [(48, ⟨(.agg (.pair .sl .bool)), (.tup (.pair (.agg (.pair .bool .str)) (.int .i64))), fun x => f48_largeint_told x⟩), (50, ⟨(.pair (.agg (.pair .sl .bool)) (.agg (.pair .sl .bool))), (.agg (.pair .sl .bool)), fun x => f50_largeint_number_add x.1 x.2⟩), (52, ⟨(.pair (.agg (.pair .bool .str)) (.agg (.pair .bool .str))), (.tup (.pair (.agg (.pair .sl .bool)) (.pair (.agg (.pair .sl .bool)) (.int .i64)))), fun x => f52_largeint_two x.1 x.2⟩)] []
/-- palaverlargeint.Sub -/
noncomputable def f36_largeint_Sub (x0 : (Bool × ByteArray)) (x1 : (Bool × ByteArray)) : M ((Bool × ByteArray) × Int) :=
  bnd (newC 23 [.bool x0.1, .string x0.2]) fun (p1 : Addr) =>
  bnd (newC 23 [.bool x1.1, .string x1.2]) fun (p2 : Addr) =>
  bnd (newC 23 [.bool false, .string (ByteArray.mk #[])]) fun (p3 : Addr) =>
  bnd (ld (.agg (.pair .bool .str)) p1) fun (v4 : (Bool × ByteArray)) =>
  bnd (ld (.agg (.pair .bool .str)) p2) fun (v5 : (Bool × ByteArray)) =>
  bnd (f52_largeint_two v4 v5) fun (r6 : ((Sl × Bool) × ((Sl × Bool) × Int))) =>
  bnd (newC 52 [.slice none 0 0, .bool false]) fun (p7 : Addr) =>
  bnd (newC 52 [.slice none 0 0, .bool false]) fun (p8 : Addr) =>
  bnd (wrs p7 0 [.slice r6.1.1.a r6.1.1.len r6.1.1.cap, .bool r6.1.2]) fun _ =>
  bnd (wrs p8 0 [.slice r6.2.1.1.a r6.2.1.1.len r6.2.1.1.cap, .bool r6.2.1.2]) fun _ =>
  cnd (r6.2.2 != (0 : Int)) (
  bnd (wrs p3 0 [.bool false, .string (ByteArray.mk #[])]) fun _ =>
  bnd (ld (.agg (.pair .bool .str)) p3) fun (v9 : (Bool × ByteArray)) =>
  ret (v9, r6.2.2)) (
  bnd (ld .bool (Addr.add p8 1)) fun (v10 : Bool) =>
  bnd (wrs (Addr.add p8 1) 0 [.bool (!v10)]) fun _ =>
  bnd (ld (.agg (.pair .sl .bool)) p7) fun (v11 : (Sl × Bool)) =>
  bnd (ld (.agg (.pair .sl .bool)) p8) fun (v12 : (Sl × Bool)) =>
  bnd (f50_largeint_number_add v11 v12) fun (r13 : (Sl × Bool)) =>
  bnd (f48_largeint_told r13) fun (r14 : ((Bool × ByteArray) × Int)) =>
  bnd (wrs p3 0 [.bool r14.1.1, .string r14.1.2]) fun _ =>
  bnd (ld (.agg (.pair .bool .str)) p3) fun (v15 : (Bool × ByteArray)) =>
  ret (v15, r14.2))
noncomputable def Af36_largeint_Sub : Ann := (.two .nil (.two .nil (.two (.two .nil (.two (.two .nil .nil) .nil)) (.two .nil (.two .nil .nil)))))
theorem Cf36_largeint_Sub_ok : Cf36_largeint_Sub.Ok := mkC_ok mixed tysOk zerosOk eqsOk ⟨Sf48_largeint_told, Sf50_largeint_number_add, Sf52_largeint_two, trivial⟩ trivial
theorem Ef36_largeint_Sub (x : ((Bool × ByteArray) × (Bool × ByteArray))) : evF Cf36_largeint_Sub Try.f36 30 (.pair (.agg (.pair .bool .str)) (.agg (.pair .bool .str))) (.tup (.pair (.agg (.pair .bool .str)) (.int .i64))) Af36_largeint_Sub x = f36_largeint_Sub x.1 x.2 := by kernel_rfl
theorem Sf36_largeint_Sub : SoundF Try.prog 36 ⟨(.pair (.agg (.pair .bool .str)) (.agg (.pair .bool .str))), (.tup (.pair (.agg (.pair .bool .str)) (.int .i64))), fun x => f36_largeint_Sub x.1 x.2⟩ :=
  soundF_of Cf36_largeint_Sub_ok Try.func36 (by kernel_rfl) (by kernel_rfl) Ef36_largeint_Sub
noncomputable def Cf7_palaverlaw09_LargeLogic : Ctx := mkC Try.prog tys zeros eqs [(12, ⟨.unit, .bool, fun _ => f12_palaverlaw09_works⟩), (24, ⟨(.pair (.agg (.pair .bool .str)) (.agg (.pair .bool .str))), (.tup (.pair (.agg (.pair .bool .str)) (.int .i64))), fun x => f24_largeint_And x.1 x.2⟩), (26, ⟨(.pair (.agg (.pair .bool .str)) (.agg (.pair .bool .str))), (.tup (.pair (.agg (.pair .bool .str)) (.int .i64))), fun x => f26_largeint_Or x.1 x.2⟩), (28, ⟨(.pair (.agg (.pair .bool .str)) (.agg (.pair .bool .str))), (.tup (.pair (.agg (.pair .bool .str)) (.int .i64))), fun x => f28_largeint_Xor x.1 x.2⟩), (34, ⟨(.agg (.pair .bool .str)), (.int .i64), fun x => f34_largeint_Check x⟩), (35, ⟨(.pair (.agg (.pair .bool .str)) (.agg (.pair .bool .str))), (.tup (.pair (.agg (.pair .bool .str)) (.int .i64))), fun x => f35_largeint_Add x.1 x.2⟩), (36, ⟨(.pair (.agg (.pair .bool .str)) (.agg (.pair .bool .str))), (.tup (.pair (.agg (.pair .bool .str)) (.int .i64))), fun x => f36_largeint_Sub x.1 x.2⟩), (37, ⟨(.int .i64), (.agg (.pair .bool .str)), fun x => f37_largeint_Of x⟩)] []
/-- palaverpalaverlaw09.LargeLogic -/
noncomputable def f7_palaverlaw09_LargeLogic (x0 : (Bool × ByteArray)) (x1 : (Bool × ByteArray)) : M Bool :=
  bnd (newC 23 [.bool x0.1, .string x0.2]) fun (p1 : Addr) =>
  bnd (newC 23 [.bool x1.1, .string x1.2]) fun (p2 : Addr) =>
  bnd f12_palaverlaw09_works fun (r3 : Bool) =>
  bnd (ld (.agg (.pair .bool .str)) p1) fun (v4 : (Bool × ByteArray)) =>
  bnd (f34_largeint_Check v4) fun (r5 : Int) =>
  bnd (
  cnd (r5 != (0 : Int)) (
  ret true) (
  bnd (ld (.agg (.pair .bool .str)) p2) fun (v6 : (Bool × ByteArray)) =>
  bnd (f34_largeint_Check v6) fun (r7 : Int) =>
  ret (r7 != (0 : Int)))) fun (b8 : Bool) =>
  cnd b8 (
  ret r3) (
  bnd (ld (.agg (.pair .bool .str)) p1) fun (v9 : (Bool × ByteArray)) =>
  bnd (ld (.agg (.pair .bool .str)) p2) fun (v10 : (Bool × ByteArray)) =>
  bnd (f24_largeint_And v9 v10) fun (r11 : ((Bool × ByteArray) × Int)) =>
  bnd (newC 23 [.bool false, .string (ByteArray.mk #[])]) fun (p12 : Addr) =>
  bnd (wrs p12 0 [.bool r11.1.1, .string r11.1.2]) fun _ =>
  bnd (ld (.agg (.pair .bool .str)) p1) fun (v13 : (Bool × ByteArray)) =>
  bnd (ld (.agg (.pair .bool .str)) p2) fun (v14 : (Bool × ByteArray)) =>
  bnd (f26_largeint_Or v13 v14) fun (r15 : ((Bool × ByteArray) × Int)) =>
  bnd (newC 23 [.bool false, .string (ByteArray.mk #[])]) fun (p16 : Addr) =>
  bnd (wrs p16 0 [.bool r15.1.1, .string r15.1.2]) fun _ =>
  bnd (ld (.agg (.pair .bool .str)) p1) fun (v17 : (Bool × ByteArray)) =>
  bnd (ld (.agg (.pair .bool .str)) p2) fun (v18 : (Bool × ByteArray)) =>
  bnd (f28_largeint_Xor v17 v18) fun (r19 : ((Bool × ByteArray) × Int)) =>
  bnd (newC 23 [.bool false, .string (ByteArray.mk #[])]) fun (p20 : Addr) =>
  bnd (wrs p20 0 [.bool r19.1.1, .string r19.1.2]) fun _ =>
  cnd (cond (cond (r11.2 != (0 : Int)) true (r15.2 != (0 : Int))) true (r19.2 != (0 : Int))) (
  ret (cond (cond (cond r3 (cond (r11.2 == (0 : Int)) true (r11.2 == (92 : Int))) false) (cond (r15.2 == (0 : Int)) true (r15.2 == (92 : Int))) false) (cond (r19.2 == (0 : Int)) true (r19.2 == (92 : Int))) false)) (
  bnd (ld (.agg (.pair .bool .str)) p1) fun (v21 : (Bool × ByteArray)) =>
  bnd (ld (.agg (.pair .bool .str)) p2) fun (v22 : (Bool × ByteArray)) =>
  bnd (f35_largeint_Add v21 v22) fun (r23 : ((Bool × ByteArray) × Int)) =>
  bnd (newC 23 [.bool false, .string (ByteArray.mk #[])]) fun (p24 : Addr) =>
  bnd (wrs p24 0 [.bool r23.1.1, .string r23.1.2]) fun _ =>
  bnd (ld (.agg (.pair .bool .str)) p12) fun (v25 : (Bool × ByteArray)) =>
  bnd (ld (.agg (.pair .bool .str)) p16) fun (v26 : (Bool × ByteArray)) =>
  bnd (f35_largeint_Add v25 v26) fun (r27 : ((Bool × ByteArray) × Int)) =>
  bnd (newC 23 [.bool false, .string (ByteArray.mk #[])]) fun (p28 : Addr) =>
  bnd (wrs p28 0 [.bool r27.1.1, .string r27.1.2]) fun _ =>
  bnd (ld (.agg (.pair .bool .str)) p16) fun (v29 : (Bool × ByteArray)) =>
  bnd (ld (.agg (.pair .bool .str)) p12) fun (v30 : (Bool × ByteArray)) =>
  bnd (f36_largeint_Sub v29 v30) fun (r31 : ((Bool × ByteArray) × Int)) =>
  bnd (newC 23 [.bool false, .string (ByteArray.mk #[])]) fun (p32 : Addr) =>
  bnd (wrs p32 0 [.bool r31.1.1, .string r31.1.2]) fun _ =>
  bnd (
  bnd (ordM 7 12 (regionIn 12 Try.f7)) fun (o34 : List Nat) =>
  bnd (ld (.agg (.pair .bool .str)) p1) fun (v35 : (Bool × ByteArray)) =>
  cnd (bef o34 1 6) (
  bnd (f37_largeint_Of (-1 : Int)) fun (r36 : (Bool × ByteArray)) =>
  bnd (
  bnd (chk (.agg (.pair .bool .str)) p1 v35) fun _ =>
  ret ()) fun _ =>
  cnd (bef o34 2 6) (
  bnd (f24_largeint_And v35 r36) fun (r37 : ((Bool × ByteArray) × Int)) =>
  bnd (ret ()) fun _ =>
  bnd (newC 23 [.bool false, .string (ByteArray.mk #[])]) fun (p38 : Addr) =>
  bnd (ret ()) fun _ =>
  bnd (wrs p38 0 [.bool r37.1.1, .string r37.1.2]) fun _ =>
  bnd (ret ()) fun _ =>
  ret (p38, r37.2)) (
  bnd (newC 23 [.bool false, .string (ByteArray.mk #[])]) fun (p39 : Addr) =>
  bnd (
  bnd (chk (.agg (.pair .bool .str)) p1 v35) fun _ =>
  ret ()) fun _ =>
  bnd (f24_largeint_And v35 r36) fun (r40 : ((Bool × ByteArray) × Int)) =>
  bnd (ret ()) fun _ =>
  bnd (wrs p39 0 [.bool r40.1.1, .string r40.1.2]) fun _ =>
  bnd (ret ()) fun _ =>
  ret (p39, r40.2))) (
  bnd (newC 23 [.bool false, .string (ByteArray.mk #[])]) fun (p41 : Addr) =>
  bnd (
  bnd (chk (.agg (.pair .bool .str)) p1 v35) fun _ =>
  ret ()) fun _ =>
  bnd (f37_largeint_Of (-1 : Int)) fun (r42 : (Bool × ByteArray)) =>
  bnd (
  bnd (chk (.agg (.pair .bool .str)) p1 v35) fun _ =>
  ret ()) fun _ =>
  bnd (f24_largeint_And v35 r42) fun (r43 : ((Bool × ByteArray) × Int)) =>
  bnd (ret ()) fun _ =>
  bnd (wrs p41 0 [.bool r43.1.1, .string r43.1.2]) fun _ =>
  bnd (ret ()) fun _ =>
  ret (p41, r43.2))) fun (s33 : (Addr × Int)) =>
  bnd (
  bnd (ordM 7 13 (regionIn 13 Try.f7)) fun (o45 : List Nat) =>
  bnd (ld (.agg (.pair .bool .str)) p1) fun (v46 : (Bool × ByteArray)) =>
  cnd (bef o45 1 6) (
  bnd (f37_largeint_Of (-1 : Int)) fun (r47 : (Bool × ByteArray)) =>
  bnd (
  bnd (chk (.agg (.pair .bool .str)) p1 v46) fun _ =>
  ret ()) fun _ =>
  cnd (bef o45 2 6) (
  bnd (f28_largeint_Xor v46 r47) fun (r48 : ((Bool × ByteArray) × Int)) =>
  bnd (ret ()) fun _ =>
  bnd (newC 23 [.bool false, .string (ByteArray.mk #[])]) fun (p49 : Addr) =>
  bnd (ret ()) fun _ =>
  bnd (wrs p49 0 [.bool r48.1.1, .string r48.1.2]) fun _ =>
  bnd (ret ()) fun _ =>
  ret (p49, r48.2)) (
  bnd (newC 23 [.bool false, .string (ByteArray.mk #[])]) fun (p50 : Addr) =>
  bnd (
  bnd (chk (.agg (.pair .bool .str)) p1 v46) fun _ =>
  ret ()) fun _ =>
  bnd (f28_largeint_Xor v46 r47) fun (r51 : ((Bool × ByteArray) × Int)) =>
  bnd (ret ()) fun _ =>
  bnd (wrs p50 0 [.bool r51.1.1, .string r51.1.2]) fun _ =>
  bnd (ret ()) fun _ =>
  ret (p50, r51.2))) (
  bnd (newC 23 [.bool false, .string (ByteArray.mk #[])]) fun (p52 : Addr) =>
  bnd (
  bnd (chk (.agg (.pair .bool .str)) p1 v46) fun _ =>
  ret ()) fun _ =>
  bnd (f37_largeint_Of (-1 : Int)) fun (r53 : (Bool × ByteArray)) =>
  bnd (
  bnd (chk (.agg (.pair .bool .str)) p1 v46) fun _ =>
  ret ()) fun _ =>
  bnd (f28_largeint_Xor v46 r53) fun (r54 : ((Bool × ByteArray) × Int)) =>
  bnd (ret ()) fun _ =>
  bnd (wrs p52 0 [.bool r54.1.1, .string r54.1.2]) fun _ =>
  bnd (ret ()) fun _ =>
  ret (p52, r54.2))) fun (s44 : (Addr × Int)) =>
  bnd (
  bnd (ordM 7 14 (regionIn 14 Try.f7)) fun (o56 : List Nat) =>
  bnd (ld (.agg (.pair .bool .str)) p1) fun (v57 : (Bool × ByteArray)) =>
  cnd (bef o56 0 6) (
  bnd (f37_largeint_Of (-1 : Int)) fun (r58 : (Bool × ByteArray)) =>
  bnd (
  bnd (chk (.agg (.pair .bool .str)) p1 v57) fun _ =>
  ret ()) fun _ =>
  cnd (bef o56 2 6) (
  bnd (f36_largeint_Sub r58 v57) fun (r59 : ((Bool × ByteArray) × Int)) =>
  bnd (ret ()) fun _ =>
  bnd (newC 23 [.bool false, .string (ByteArray.mk #[])]) fun (p60 : Addr) =>
  bnd (ret ()) fun _ =>
  bnd (wrs p60 0 [.bool r59.1.1, .string r59.1.2]) fun _ =>
  bnd (ret ()) fun _ =>
  ret (p60, r59.2)) (
  bnd (newC 23 [.bool false, .string (ByteArray.mk #[])]) fun (p61 : Addr) =>
  bnd (
  bnd (chk (.agg (.pair .bool .str)) p1 v57) fun _ =>
  ret ()) fun _ =>
  bnd (f36_largeint_Sub r58 v57) fun (r62 : ((Bool × ByteArray) × Int)) =>
  bnd (ret ()) fun _ =>
  bnd (wrs p61 0 [.bool r62.1.1, .string r62.1.2]) fun _ =>
  bnd (ret ()) fun _ =>
  ret (p61, r62.2))) (
  bnd (newC 23 [.bool false, .string (ByteArray.mk #[])]) fun (p63 : Addr) =>
  bnd (
  bnd (chk (.agg (.pair .bool .str)) p1 v57) fun _ =>
  ret ()) fun _ =>
  bnd (f37_largeint_Of (-1 : Int)) fun (r64 : (Bool × ByteArray)) =>
  bnd (
  bnd (chk (.agg (.pair .bool .str)) p1 v57) fun _ =>
  ret ()) fun _ =>
  bnd (f36_largeint_Sub r64 v57) fun (r65 : ((Bool × ByteArray) × Int)) =>
  bnd (ret ()) fun _ =>
  bnd (wrs p63 0 [.bool r65.1.1, .string r65.1.2]) fun _ =>
  bnd (ret ()) fun _ =>
  ret (p63, r65.2))) fun (s55 : (Addr × Int)) =>
  bnd (
  cnd (r23.2 != r27.2) (
  ret true) (
  bnd (ld (.agg (.pair .bool .str)) p24) fun (v66 : (Bool × ByteArray)) =>
  bnd (ld (.agg (.pair .bool .str)) p28) fun (v67 : (Bool × ByteArray)) =>
  ret (!((v66.1 == v67.1) && (strEq v66.2 v67.2))))) fun (b68 : Bool) =>
  bnd (
  cnd (cond b68 true (r31.2 != (0 : Int))) (
  ret true) (
  bnd (ld (.agg (.pair .bool .str)) p32) fun (v69 : (Bool × ByteArray)) =>
  bnd (ld (.agg (.pair .bool .str)) p20) fun (v70 : (Bool × ByteArray)) =>
  ret (!((v69.1 == v70.1) && (strEq v69.2 v70.2))))) fun (b71 : Bool) =>
  cnd b71 (
  ret false) (
  bnd (
  cnd (cond r3 (s33.2 == (0 : Int)) false) (
  bnd (ld (.agg (.pair .bool .str)) s33.1) fun (v72 : (Bool × ByteArray)) =>
  bnd (ld (.agg (.pair .bool .str)) p1) fun (v73 : (Bool × ByteArray)) =>
  ret ((v72.1 == v73.1) && (strEq v72.2 v73.2))) (
  ret false)) fun (b74 : Bool) =>
  bnd (
  cnd b74 (
  bnd (
  cnd (cond (s44.2 != (0 : Int)) true (s55.2 != (0 : Int))) (
  ret true) (
  bnd (ld (.agg (.pair .bool .str)) s44.1) fun (v75 : (Bool × ByteArray)) =>
  bnd (ld (.agg (.pair .bool .str)) s55.1) fun (v76 : (Bool × ByteArray)) =>
  ret ((v75.1 == v76.1) && (strEq v75.2 v76.2)))) fun (b77 : Bool) =>
  ret b77) (
  ret false)) fun (b78 : Bool) =>
  ret b78)))
noncomputable def Af7_palaverlaw09_LargeLogic : Ann := (.two .nil (.two .nil (.two (.two .nil (.two (.two .nil .nil) .nil)) (.two .nil (.two .nil (.two .nil (.two (.two .nil (.two (.two .nil .nil) .nil)) (.two .nil (.two .nil (.two .nil (.two (.join [(18, .adr), (19, (.int .i64))] [105, 106, 107, 108, 109, 110] false (.ord 7 [(0, 510), (0, 509), (3, 504), (4, 499), (8, 487), (8, 471), (0, 447), (95, 303), (255, 223)] (.o 0 (.f 1 6 (.f 2 6 (.o 3 (.o 4 (.o 5 (.o 6 (.o 7 (.o 8 .done)))))) (.o 2 (.o 3 (.o 4 (.o 5 (.o 7 (.o 8 .done))))))) (.o 1 (.o 2 (.o 3 (.o 4 (.o 5 (.o 7 (.o 8 .done))))))))))) (.two (.join [(20, .adr), (21, (.int .i64))] [111, 112, 113, 114, 115, 116] false (.ord 7 [(0, 510), (0, 509), (3, 504), (4, 499), (8, 487), (8, 471), (0, 447), (95, 303), (255, 223)] (.o 0 (.f 1 6 (.f 2 6 (.o 3 (.o 4 (.o 5 (.o 6 (.o 7 (.o 8 .done)))))) (.o 2 (.o 3 (.o 4 (.o 5 (.o 7 (.o 8 .done))))))) (.o 1 (.o 2 (.o 3 (.o 4 (.o 5 (.o 7 (.o 8 .done))))))))))) (.two (.join [(22, .adr), (23, (.int .i64))] [117, 118, 119, 120, 121, 122] false (.ord 7 [(0, 510), (0, 509), (3, 504), (4, 499), (8, 487), (8, 471), (0, 447), (95, 303), (255, 223)] (.o 1 (.f 0 6 (.f 2 6 (.o 3 (.o 4 (.o 5 (.o 6 (.o 7 (.o 8 .done)))))) (.o 2 (.o 3 (.o 4 (.o 5 (.o 7 (.o 8 .done))))))) (.o 0 (.o 2 (.o 3 (.o 4 (.o 5 (.o 7 (.o 8 .done))))))))))) (.two (.two .nil (.two (.two .nil .nil) .nil)) (.two .nil .nil)))))))))))))))
theorem Cf7_palaverlaw09_LargeLogic_ok : Cf7_palaverlaw09_LargeLogic.Ok := mkC_ok mixed tysOk zerosOk eqsOk ⟨Sf12_palaverlaw09_works, Sf24_largeint_And, Sf26_largeint_Or, Sf28_largeint_Xor, Sf34_largeint_Check, Sf35_largeint_Add, Sf36_largeint_Sub, Sf37_largeint_Of, trivial⟩ trivial
theorem Ef7_palaverlaw09_LargeLogic (x : ((Bool × ByteArray) × (Bool × ByteArray))) : evF Cf7_palaverlaw09_LargeLogic Try.f7 163 (.pair (.agg (.pair .bool .str)) (.agg (.pair .bool .str))) .bool Af7_palaverlaw09_LargeLogic x = f7_palaverlaw09_LargeLogic x.1 x.2 := by kernel_rfl
theorem Sf7_palaverlaw09_LargeLogic : SoundF Try.prog 7 ⟨(.pair (.agg (.pair .bool .str)) (.agg (.pair .bool .str))), .bool, fun x => f7_palaverlaw09_LargeLogic x.1 x.2⟩ :=
  soundF_of Cf7_palaverlaw09_LargeLogic_ok Try.func7 (by kernel_rfl) (by kernel_rfl) Ef7_palaverlaw09_LargeLogic
noncomputable def Cf77_largeint_nat_mul : Ctx := mkC Try.prog tys zeros eqs [(84, ⟨.sl, .sl, fun x => f84_largeint_nat_trim x⟩)] []
/-- (palaverlargeint.nat).mul -/
noncomputable def f77_largeint_nat_mul (x0 : Sl) (x1 : Sl) : M Sl :=
  bnd (runV Try.prog .sl (Instr.makeSlice 50 (.int .i64 (IntKind.wrap .i64 ((x0.len : Int) + (x1.len : Int)))) (.int .i64 (IntKind.wrap .i64 ((x0.len : Int) + (x1.len : Int)))))) fun (v1 : Sl) =>
  loopM (fun (s2 : Int) =>
  cnd (decide (s2 < (x0.len : Int))) (
  bnd (ix 1 x0 s2) fun (p3 : Addr) =>
  bnd (ld (.int .u32) p3) fun (v4 : Int) =>
  loopM (fun (s5 : (Int × Int)) =>
  cnd (decide (s5.2 < (x1.len : Int))) (
  bnd (ix 1 x1 s5.2) fun (p6 : Addr) =>
  bnd (ld (.int .u32) p6) fun (v7 : Int) =>
  bnd (ix 1 v1 (IntKind.wrap .i64 (s2 + s5.2))) fun (p8 : Addr) =>
  bnd (ld (.int .u32) p8) fun (v9 : Int) =>
  bnd (ix 1 v1 (IntKind.wrap .i64 (s2 + s5.2))) fun (p10 : Addr) =>
  bnd (wrs p10 0 [.int .u32 (IntKind.wrap .u32 (IntKind.wrap .u64 ((IntKind.wrap .u64 ((IntKind.wrap .u64 ((IntKind.wrap .u64 v4) * (IntKind.wrap .u64 v7))) + (IntKind.wrap .u64 v9))) + s5.1)))]) fun _ =>
  ret (Sum.inl ((shrI .u64 (IntKind.wrap .u64 ((IntKind.wrap .u64 ((IntKind.wrap .u64 ((IntKind.wrap .u64 v4) * (IntKind.wrap .u64 v7))) + (IntKind.wrap .u64 v9))) + s5.1)) 32), (IntKind.wrap .i64 (s5.2 + (1 : Int)))))) (
  bnd (
  bnd (ix 1 v1 (IntKind.wrap .i64 (s2 + (x1.len : Int)))) fun (p11 : Addr) =>
  bnd (wrs p11 0 [.int .u32 (IntKind.wrap .u32 s5.1)]) fun _ =>
  ret (Sum.inl (IntKind.wrap .i64 (s2 + (1 : Int))))) fun r12 =>
  ret (Sum.inr r12))) ((0 : Int), (0 : Int))) (
  bnd (
  bnd (f84_largeint_nat_trim v1) fun (r13 : Sl) =>
  ret r13) fun r14 =>
  ret (Sum.inr r14))) (0 : Int)
noncomputable def Af77_largeint_nat_mul : Ann := (.two .nil (.two .nil (.two (.two .nil (.one (.loop [(20, (.int .i64))] [6, 7, 8, 9, 10, 11, 21, 22, 23, 24, 25, 26, 27, 28, 29, 30, 31, 32, 33, 34, 35, 36, 37, 38, 39, 40, 41, 42, 43, 44, 45, 46, 47, 48, 49, 50, 51, 52, 53, 54, 55, 56, 57, 58, 59, 60, 61, 62, 63, 64, 65] (.two .nil (.two (.two .nil .nil) (.two (.one (.two .nil (.two .nil (.two (.two .nil (.one (.loop [(8, (.int .u64)), (27, (.int .i64))] [9, 10, 11, 28, 29, 30, 31, 32, 33, 34, 35, 36, 37, 38, 39, 40, 41, 42, 43, 44, 45, 46, 47, 48, 49, 50, 51, 52, 53, 54, 55, 56] (.two .nil (.two (.two .nil .nil) (.two (.one (.two .nil (.two .nil .nil))) .nil)))))) .nil)))) .nil)))))) (.two .nil .nil))))
theorem Cf77_largeint_nat_mul_ok : Cf77_largeint_nat_mul.Ok := mkC_ok mixed tysOk zerosOk eqsOk ⟨Sf84_largeint_nat_trim, trivial⟩ trivial
theorem Ef77_largeint_nat_mul (x : (Sl × Sl)) : evF Cf77_largeint_nat_mul Try.f77 68 (.pair .sl .sl) .sl Af77_largeint_nat_mul x = f77_largeint_nat_mul x.1 x.2 := by kernel_rfl
theorem Sf77_largeint_nat_mul : SoundF Try.prog 77 ⟨(.pair .sl .sl), .sl, fun x => f77_largeint_nat_mul x.1 x.2⟩ :=
  soundF_of Cf77_largeint_nat_mul_ok Try.func77 (by kernel_rfl) (by kernel_rfl) Ef77_largeint_nat_mul
noncomputable def Cf38_largeint_Mul : Ctx := mkC Try.prog tys zeros eqs [(48, ⟨(.agg (.pair .sl .bool)), (.tup (.pair (.agg (.pair .bool .str)) (.int .i64))), fun x => f48_largeint_told x⟩), (52, ⟨(.pair (.agg (.pair .bool .str)) (.agg (.pair .bool .str))), (.tup (.pair (.agg (.pair .sl .bool)) (.pair (.agg (.pair .sl .bool)) (.int .i64)))), fun x => f52_largeint_two x.1 x.2⟩), (77, ⟨(.pair .sl .sl), .sl, fun x => f77_largeint_nat_mul x.1 x.2⟩)] []
/-- palaverlargeint.Mul -/
noncomputable def f38_largeint_Mul (x0 : (Bool × ByteArray)) (x1 : (Bool × ByteArray)) : M ((Bool × ByteArray) × Int) :=
  bnd (newC 23 [.bool x0.1, .string x0.2]) fun (p1 : Addr) =>
  bnd (newC 23 [.bool x1.1, .string x1.2]) fun (p2 : Addr) =>
  bnd (newC 23 [.bool false, .string (ByteArray.mk #[])]) fun (p3 : Addr) =>
  bnd (ld (.agg (.pair .bool .str)) p1) fun (v4 : (Bool × ByteArray)) =>
  bnd (ld (.agg (.pair .bool .str)) p2) fun (v5 : (Bool × ByteArray)) =>
  bnd (f52_largeint_two v4 v5) fun (r6 : ((Sl × Bool) × ((Sl × Bool) × Int))) =>
  bnd (newC 52 [.slice none 0 0, .bool false]) fun (p7 : Addr) =>
  bnd (newC 52 [.slice none 0 0, .bool false]) fun (p8 : Addr) =>
  bnd (wrs p7 0 [.slice r6.1.1.a r6.1.1.len r6.1.1.cap, .bool r6.1.2]) fun _ =>
  bnd (wrs p8 0 [.slice r6.2.1.1.a r6.2.1.1.len r6.2.1.1.cap, .bool r6.2.1.2]) fun _ =>
  cnd (r6.2.2 != (0 : Int)) (
  bnd (wrs p3 0 [.bool false, .string (ByteArray.mk #[])]) fun _ =>
  bnd (ld (.agg (.pair .bool .str)) p3) fun (v9 : (Bool × ByteArray)) =>
  ret (v9, r6.2.2)) (
  bnd (
  bnd (ordM 38 4 (regionIn 4 Try.f38)) fun (o11 : List Nat) =>
  bnd (ld .sl (Addr.add p7 0)) fun (v12 : Sl) =>
  bnd (ld .sl (Addr.add p8 0)) fun (v13 : Sl) =>
  bnd (ld .bool (Addr.add p7 1)) fun (v14 : Bool) =>
  bnd (ld .bool (Addr.add p8 1)) fun (v15 : Bool) =>
  bnd (f77_largeint_nat_mul v12 v13) fun (r16 : Sl) =>
  bnd (
  bnd (chk .bool (Addr.add p8 1) v15) fun _ =>
  bnd (chk .bool (Addr.add p7 1) v14) fun _ =>
  ret ()) fun _ =>
  bnd (f48_largeint_told (r16, (!(v14 == v15)))) fun (r17 : ((Bool × ByteArray) × Int)) =>
  bnd (
  bnd (chk .bool (Addr.add p8 1) v15) fun _ =>
  bnd (chk .bool (Addr.add p7 1) v14) fun _ =>
  ret ()) fun _ =>
  bnd (wrs p3 0 [.bool r17.1.1, .string r17.1.2]) fun _ =>
  bnd (ret ()) fun _ =>
  ret r17.2) fun (s10 : Int) =>
  bnd (ld (.agg (.pair .bool .str)) p3) fun (v18 : (Bool × ByteArray)) =>
  ret (v18, s10))
noncomputable def Af38_largeint_Mul : Ann := (.two .nil (.two .nil (.two (.two .nil (.two (.two .nil .nil) .nil)) (.two (.join [(5, (.int .i64))] [20, 21, 22, 23, 24, 25, 26, 27, 28, 29, 30, 31, 32, 33] false (.ord 38 [(0, 65534), (1, 65532), (0, 65531), (4, 65523), (10, 65509), (0, 65503), (32, 65439), (0, 65407), (128, 65151), (320, 64703), (528, 63983), (1040, 62463), (2048, 59391), (2048, 55295), (16383, 45055), (32767, 24575)] (.o 0 (.o 1 (.o 2 (.o 3 (.o 5 (.o 6 (.o 7 (.o 8 (.o 9 (.o 4 (.o 10 (.o 11 (.o 12 (.o 13 (.o 14 (.o 15 .done)))))))))))))))))) .nil))))
theorem Cf38_largeint_Mul_ok : Cf38_largeint_Mul.Ok := mkC_ok mixed tysOk zerosOk eqsOk ⟨Sf48_largeint_told, Sf52_largeint_two, Sf77_largeint_nat_mul, trivial⟩ trivial
theorem Ef38_largeint_Mul (x : ((Bool × ByteArray) × (Bool × ByteArray))) : evF Cf38_largeint_Mul Try.f38 34 (.pair (.agg (.pair .bool .str)) (.agg (.pair .bool .str))) (.tup (.pair (.agg (.pair .bool .str)) (.int .i64))) Af38_largeint_Mul x = f38_largeint_Mul x.1 x.2 := by kernel_rfl
theorem Sf38_largeint_Mul : SoundF Try.prog 38 ⟨(.pair (.agg (.pair .bool .str)) (.agg (.pair .bool .str))), (.tup (.pair (.agg (.pair .bool .str)) (.int .i64))), fun x => f38_largeint_Mul x.1 x.2⟩ :=
  soundF_of Cf38_largeint_Mul_ok Try.func38 (by kernel_rfl) (by kernel_rfl) Ef38_largeint_Mul
noncomputable def Cf8_palaverlaw09_LargeShifts : Ctx := mkC Try.prog tys zeros eqs [(12, ⟨.unit, .bool, fun _ => f12_palaverlaw09_works⟩), (14, ⟨(.pair (.agg (.pair .bool .str)) (.agg (.pair .bool .str))), (.tup (.pair (.agg (.pair .bool .str)) (.pair (.agg (.pair .bool .str)) (.int .i64)))), fun x => f14_largeint_Div x.1 x.2⟩), (30, ⟨(.pair (.agg (.pair .bool .str)) (.int .i64)), (.tup (.pair (.agg (.pair .bool .str)) (.int .i64))), fun x => f30_largeint_Shift x.1 x.2⟩), (32, ⟨(.agg (.pair .bool .str)), (.int .i64), fun x => f32_largeint_Bits x⟩), (34, ⟨(.agg (.pair .bool .str)), (.int .i64), fun x => f34_largeint_Check x⟩), (37, ⟨(.int .i64), (.agg (.pair .bool .str)), fun x => f37_largeint_Of x⟩), (38, ⟨(.pair (.agg (.pair .bool .str)) (.agg (.pair .bool .str))), (.tup (.pair (.agg (.pair .bool .str)) (.int .i64))), fun x => f38_largeint_Mul x.1 x.2⟩)] []
/-- palaverpalaverlaw09.LargeShifts -/
noncomputable def f8_palaverlaw09_LargeShifts (x0 : (Bool × ByteArray)) (x1 : Int) : M Bool :=
  bnd (newC 23 [.bool x0.1, .string x0.2]) fun (p1 : Addr) =>
  bnd f12_palaverlaw09_works fun (r2 : Bool) =>
  bnd (ld (.agg (.pair .bool .str)) p1) fun (v3 : (Bool × ByteArray)) =>
  bnd (f34_largeint_Check v3) fun (r4 : Int) =>
  cnd (cond (cond (r4 != (0 : Int)) true (decide (x1 < (0 : Int)))) true (decide (x1 > (4000 : Int)))) (
  ret r2) (
  bnd (f37_largeint_Of (1 : Int)) fun (r5 : (Bool × ByteArray)) =>
  bnd (f30_largeint_Shift r5 x1) fun (r6 : ((Bool × ByteArray) × Int)) =>
  bnd (newC 23 [.bool false, .string (ByteArray.mk #[])]) fun (p7 : Addr) =>
  bnd (wrs p7 0 [.bool r6.1.1, .string r6.1.2]) fun _ =>
  bnd (ld (.agg (.pair .bool .str)) p1) fun (v8 : (Bool × ByteArray)) =>
  bnd (f30_largeint_Shift v8 x1) fun (r9 : ((Bool × ByteArray) × Int)) =>
  bnd (newC 23 [.bool false, .string (ByteArray.mk #[])]) fun (p10 : Addr) =>
  bnd (wrs p10 0 [.bool r9.1.1, .string r9.1.2]) fun _ =>
  cnd (cond (r6.2 != (0 : Int)) true (r9.2 != (0 : Int))) (
  ret (cond (cond r2 (r6.2 == (0 : Int)) false) (r9.2 == (92 : Int)) false)) (
  bnd (ld (.agg (.pair .bool .str)) p1) fun (v11 : (Bool × ByteArray)) =>
  bnd (ld (.agg (.pair .bool .str)) p7) fun (v12 : (Bool × ByteArray)) =>
  bnd (f38_largeint_Mul v11 v12) fun (r13 : ((Bool × ByteArray) × Int)) =>
  bnd (newC 23 [.bool false, .string (ByteArray.mk #[])]) fun (p14 : Addr) =>
  bnd (wrs p14 0 [.bool r13.1.1, .string r13.1.2]) fun _ =>
  bnd (ld (.agg (.pair .bool .str)) p10) fun (v15 : (Bool × ByteArray)) =>
  bnd (f30_largeint_Shift v15 (IntKind.wrap .i64 (0 - x1))) fun (r16 : ((Bool × ByteArray) × Int)) =>
  bnd (newC 23 [.bool false, .string (ByteArray.mk #[])]) fun (p17 : Addr) =>
  bnd (wrs p17 0 [.bool r16.1.1, .string r16.1.2]) fun _ =>
  bnd (ld (.agg (.pair .bool .str)) p1) fun (v18 : (Bool × ByteArray)) =>
  bnd (f30_largeint_Shift v18 (IntKind.wrap .i64 (0 - x1))) fun (r19 : ((Bool × ByteArray) × Int)) =>
  bnd (newC 23 [.bool false, .string (ByteArray.mk #[])]) fun (p20 : Addr) =>
  bnd (wrs p20 0 [.bool r19.1.1, .string r19.1.2]) fun _ =>
  bnd (ld (.agg (.pair .bool .str)) p1) fun (v21 : (Bool × ByteArray)) =>
  bnd (ld (.agg (.pair .bool .str)) p7) fun (v22 : (Bool × ByteArray)) =>
  bnd (f14_largeint_Div v21 v22) fun (r23 : ((Bool × ByteArray) × ((Bool × ByteArray) × Int))) =>
  bnd (newC 23 [.bool false, .string (ByteArray.mk #[])]) fun (p24 : Addr) =>
  bnd (newC 23 [.bool false, .string (ByteArray.mk #[])]) fun (p25 : Addr) =>
  bnd (wrs p24 0 [.bool r23.1.1, .string r23.1.2]) fun _ =>
  bnd (wrs p25 0 [.bool r23.2.1.1, .string r23.2.1.2]) fun _ =>
  bnd (ld (.agg (.pair .bool .str)) p1) fun (v26 : (Bool × ByteArray)) =>
  bnd (f32_largeint_Bits v26) fun (r27 : Int) =>
  bnd (ld (.agg (.pair .bool .str)) p10) fun (v28 : (Bool × ByteArray)) =>
  bnd (f32_largeint_Bits v28) fun (r29 : Int) =>
  bnd (
  cnd (cond r2 (r13.2 == (0 : Int)) false) (
  bnd (ld (.agg (.pair .bool .str)) p10) fun (v30 : (Bool × ByteArray)) =>
  bnd (ld (.agg (.pair .bool .str)) p14) fun (v31 : (Bool × ByteArray)) =>
  ret ((v30.1 == v31.1) && (strEq v30.2 v31.2))) (
  ret false)) fun (b32 : Bool) =>
  bnd (
  cnd (cond b32 (r16.2 == (0 : Int)) false) (
  bnd (ld (.agg (.pair .bool .str)) p17) fun (v33 : (Bool × ByteArray)) =>
  bnd (ld (.agg (.pair .bool .str)) p1) fun (v34 : (Bool × ByteArray)) =>
  ret ((v33.1 == v34.1) && (strEq v33.2 v34.2))) (
  ret false)) fun (b35 : Bool) =>
  bnd (
  cnd (cond b35 (r19.2 == (0 : Int)) false) (
  bnd (
  cnd (r23.2.2 != (0 : Int)) (
  ret true) (
  bnd (ld (.agg (.pair .bool .str)) p24) fun (v36 : (Bool × ByteArray)) =>
  bnd (ld (.agg (.pair .bool .str)) p20) fun (v37 : (Bool × ByteArray)) =>
  ret ((v36.1 == v37.1) && (strEq v36.2 v37.2)))) fun (b38 : Bool) =>
  ret b38) (
  ret false)) fun (b39 : Bool) =>
  ret (cond b39 (cond (r29 == (IntKind.wrap .i64 (r27 + x1))) true (cond (r27 == (0 : Int)) (r29 == (0 : Int)) false)) false)))
noncomputable def Af8_palaverlaw09_LargeShifts : Ann := (.two .nil (.two .nil (.two (.two .nil (.two (.two .nil .nil) .nil)) (.two .nil (.two .nil (.two (.two .nil (.two (.two .nil .nil) .nil)) (.two .nil (.two .nil (.two .nil (.two .nil (.two .nil (.two .nil (.two .nil .nil)))))))))))))
theorem Cf8_palaverlaw09_LargeShifts_ok : Cf8_palaverlaw09_LargeShifts.Ok := mkC_ok mixed tysOk zerosOk eqsOk ⟨Sf12_palaverlaw09_works, Sf14_largeint_Div, Sf30_largeint_Shift, Sf32_largeint_Bits, Sf34_largeint_Check, Sf37_largeint_Of, Sf38_largeint_Mul, trivial⟩ trivial
theorem Ef8_palaverlaw09_LargeShifts (x : ((Bool × ByteArray) × Int)) : evF Cf8_palaverlaw09_LargeShifts Try.f8 139 (.pair (.agg (.pair .bool .str)) (.int .i64)) .bool Af8_palaverlaw09_LargeShifts x = f8_palaverlaw09_LargeShifts x.1 x.2 := by kernel_rfl
theorem Sf8_palaverlaw09_LargeShifts : SoundF Try.prog 8 ⟨(.pair (.agg (.pair .bool .str)) (.int .i64)), .bool, fun x => f8_palaverlaw09_LargeShifts x.1 x.2⟩ :=
  soundF_of Cf8_palaverlaw09_LargeShifts_ok Try.func8 (by kernel_rfl) (by kernel_rfl) Ef8_palaverlaw09_LargeShifts
noncomputable def Cf78_largeint_number_cmp : Ctx := mkC Try.prog tys zeros eqs [(81, ⟨(.pair .sl .sl), (.int .i64), fun x => f81_largeint_nat_cmp x.1 x.2⟩)] []
/-- (palaverlargeint.number).cmp -/
noncomputable def f78_largeint_number_cmp (x0 : (Sl × Bool)) (x1 : (Sl × Bool)) : M Int :=
  bnd (newC 52 [.slice x0.1.a x0.1.len x0.1.cap, .bool x0.2]) fun (p1 : Addr) =>
  bnd (newC 52 [.slice x1.1.a x1.1.len x1.1.cap, .bool x1.2]) fun (p2 : Addr) =>
  bnd (ld .sl (Addr.add p1 0)) fun (v3 : Sl) =>
  bnd (ld .sl (Addr.add p2 0)) fun (v4 : Sl) =>
  bnd (f81_largeint_nat_cmp v3 v4) fun (r5 : Int) =>
  bnd (
  bnd (
  bnd (ld .bool (Addr.add p1 1)) fun (v8 : Bool) =>
  bnd (ld .bool (Addr.add p2 1)) fun (v9 : Bool) =>
  cnd (!(v8 == v9)) (
  ret (Sum.inl (1 : Int))) (
  bnd (ld .bool (Addr.add p1 1)) fun (v10 : Bool) =>
  cnd v10 (
  ret (Sum.inl r5)) (
  ret (Sum.inr (Sum.inl r5))))) (fun
  | .inl (s7 : Int) =>
  bnd (ld .bool (Addr.add p1 1)) fun (v13 : Bool) =>
  cnd v13 (
  ret (Sum.inr (IntKind.wrap .i64 (0 - s7)))) (
  ret (Sum.inl s7))
  | .inr r15 => ret r15)) (fun
  | .inl (s6 : Int) =>
  ret s6
  | .inr r17 => ret r17)
noncomputable def Af78_largeint_number_cmp : Ann := (.two .nil (.two .nil (.two (.join [(5, (.int .i64))] [4, 11, 12, 13, 14, 15, 16, 17, 18, 19, 20, 21, 22, 23] true (.one (.two (.join [(5, (.int .i64))] [11, 12, 13, 14, 15, 16, 17, 18, 19] true (.one (.two (.one (.two (.two (.two .nil (.two .nil .nil)) (.two .nil (.two .nil .nil))) .nil)) .nil))) (.two (.two .nil (.two (.two .nil .nil) .nil)) .nil)))) (.two .nil .nil))))
theorem Cf78_largeint_number_cmp_ok : Cf78_largeint_number_cmp.Ok := mkC_ok mixed tysOk zerosOk eqsOk ⟨Sf81_largeint_nat_cmp, trivial⟩ trivial
theorem Ef78_largeint_number_cmp (x : ((Sl × Bool) × (Sl × Bool))) : evF Cf78_largeint_number_cmp Try.f78 25 (.pair (.agg (.pair .sl .bool)) (.agg (.pair .sl .bool))) (.int .i64) Af78_largeint_number_cmp x = f78_largeint_number_cmp x.1 x.2 := by kernel_rfl
theorem Sf78_largeint_number_cmp : SoundF Try.prog 78 ⟨(.pair (.agg (.pair .sl .bool)) (.agg (.pair .sl .bool))), (.int .i64), fun x => f78_largeint_number_cmp x.1 x.2⟩ :=
  soundF_of Cf78_largeint_number_cmp_ok Try.func78 (by kernel_rfl) (by kernel_rfl) Ef78_largeint_number_cmp
noncomputable def Cf39_largeint_Cmp : Ctx := mkC Try.prog tys zeros eqs [(52, ⟨(.pair (.agg (.pair .bool .str)) (.agg (.pair .bool .str))), (.tup (.pair (.agg (.pair .sl .bool)) (.pair (.agg (.pair .sl .bool)) (.int .i64)))), fun x => f52_largeint_two x.1 x.2⟩), (78, ⟨(.pair (.agg (.pair .sl .bool)) (.agg (.pair .sl .bool))), (.int .i64), fun x => f78_largeint_number_cmp x.1 x.2⟩)] []
/-- palaverlargeint.Cmp -/
noncomputable def f39_largeint_Cmp (x0 : (Bool × ByteArray)) (x1 : (Bool × ByteArray)) : M (Int × Int) :=
  bnd (newC 23 [.bool x0.1, .string x0.2]) fun (p1 : Addr) =>
  bnd (newC 23 [.bool x1.1, .string x1.2]) fun (p2 : Addr) =>
  bnd (ld (.agg (.pair .bool .str)) p1) fun (v3 : (Bool × ByteArray)) =>
  bnd (ld (.agg (.pair .bool .str)) p2) fun (v4 : (Bool × ByteArray)) =>
  bnd (f52_largeint_two v3 v4) fun (r5 : ((Sl × Bool) × ((Sl × Bool) × Int))) =>
  bnd (newC 52 [.slice none 0 0, .bool false]) fun (p6 : Addr) =>
  bnd (newC 52 [.slice none 0 0, .bool false]) fun (p7 : Addr) =>
  bnd (wrs p6 0 [.slice r5.1.1.a r5.1.1.len r5.1.1.cap, .bool r5.1.2]) fun _ =>
  bnd (wrs p7 0 [.slice r5.2.1.1.a r5.2.1.1.len r5.2.1.1.cap, .bool r5.2.1.2]) fun _ =>
  cnd (r5.2.2 != (0 : Int)) (
  ret ((0 : Int), r5.2.2)) (
  bnd (ld (.agg (.pair .sl .bool)) p6) fun (v8 : (Sl × Bool)) =>
  bnd (ld (.agg (.pair .sl .bool)) p7) fun (v9 : (Sl × Bool)) =>
  bnd (f78_largeint_number_cmp v8 v9) fun (r10 : Int) =>
  ret (r10, (0 : Int)))
noncomputable def Af39_largeint_Cmp : Ann := (.two .nil (.two .nil (.two (.two .nil (.two (.two .nil .nil) .nil)) (.two .nil .nil))))
theorem Cf39_largeint_Cmp_ok : Cf39_largeint_Cmp.Ok := mkC_ok mixed tysOk zerosOk eqsOk ⟨Sf52_largeint_two, Sf78_largeint_number_cmp, trivial⟩ trivial
theorem Ef39_largeint_Cmp (x : ((Bool × ByteArray) × (Bool × ByteArray))) : evF Cf39_largeint_Cmp Try.f39 22 (.pair (.agg (.pair .bool .str)) (.agg (.pair .bool .str))) (.tup (.pair (.int .i64) (.int .i64))) Af39_largeint_Cmp x = f39_largeint_Cmp x.1 x.2 := by kernel_rfl
theorem Sf39_largeint_Cmp : SoundF Try.prog 39 ⟨(.pair (.agg (.pair .bool .str)) (.agg (.pair .bool .str))), (.tup (.pair (.int .i64) (.int .i64))), fun x => f39_largeint_Cmp x.1 x.2⟩ :=
  soundF_of Cf39_largeint_Cmp_ok Try.func39 (by kernel_rfl) (by kernel_rfl) Ef39_largeint_Cmp
noncomputable def Cf9_palaverlaw09_LargeBack : Ctx := mkC Try.prog tys zeros eqs [(12, ⟨.unit, .bool, fun _ => f12_palaverlaw09_works⟩), (14, ⟨(.pair (.agg (.pair .bool .str)) (.agg (.pair .bool .str))), (.tup (.pair (.agg (.pair .bool .str)) (.pair (.agg (.pair .bool .str)) (.int .i64)))), fun x => f14_largeint_Div x.1 x.2⟩), (16, ⟨(.pair (.agg (.pair .bool .str)) (.agg (.pair .bool .str))), (.tup (.pair (.agg (.pair .bool .str)) (.pair (.agg (.pair .bool .str)) (.int .i64)))), fun x => f16_largeint_Quo x.1 x.2⟩), (34, ⟨(.agg (.pair .bool .str)), (.int .i64), fun x => f34_largeint_Check x⟩), (35, ⟨(.pair (.agg (.pair .bool .str)) (.agg (.pair .bool .str))), (.tup (.pair (.agg (.pair .bool .str)) (.int .i64))), fun x => f35_largeint_Add x.1 x.2⟩), (36, ⟨(.pair (.agg (.pair .bool .str)) (.agg (.pair .bool .str))), (.tup (.pair (.agg (.pair .bool .str)) (.int .i64))), fun x => f36_largeint_Sub x.1 x.2⟩), (38, ⟨(.pair (.agg (.pair .bool .str)) (.agg (.pair .bool .str))), (.tup (.pair (.agg (.pair .bool .str)) (.int .i64))), fun x => f38_largeint_Mul x.1 x.2⟩), (39, ⟨(.pair (.agg (.pair .bool .str)) (.agg (.pair .bool .str))), (.tup (.pair (.int .i64) (.int .i64))), fun x => f39_largeint_Cmp x.1 x.2⟩)] []
/-- palaverpalaverlaw09.LargeBack -/
noncomputable def f9_palaverlaw09_LargeBack (x0 : (Bool × ByteArray)) (x1 : (Bool × ByteArray)) : M Bool :=
  bnd (newC 23 [.bool x0.1, .string x0.2]) fun (p1 : Addr) =>
  bnd (newC 23 [.bool x1.1, .string x1.2]) fun (p2 : Addr) =>
  bnd f12_palaverlaw09_works fun (r3 : Bool) =>
  bnd (ld (.agg (.pair .bool .str)) p1) fun (v4 : (Bool × ByteArray)) =>
  bnd (f34_largeint_Check v4) fun (r5 : Int) =>
  bnd (ld (.agg (.pair .bool .str)) p2) fun (v6 : (Bool × ByteArray)) =>
  bnd (f34_largeint_Check v6) fun (r7 : Int) =>
  cnd (cond (r5 != (0 : Int)) true (r7 != (0 : Int))) (
  ret r3) (
  bnd (ld (.agg (.pair .bool .str)) p1) fun (v8 : (Bool × ByteArray)) =>
  bnd (ld (.agg (.pair .bool .str)) p2) fun (v9 : (Bool × ByteArray)) =>
  bnd (f35_largeint_Add v8 v9) fun (r10 : ((Bool × ByteArray) × Int)) =>
  bnd (newC 23 [.bool false, .string (ByteArray.mk #[])]) fun (p11 : Addr) =>
  bnd (wrs p11 0 [.bool r10.1.1, .string r10.1.2]) fun _ =>
  bnd (
  cnd (r10.2 == (0 : Int)) (
  bnd (ld (.agg (.pair .bool .str)) p11) fun (v13 : (Bool × ByteArray)) =>
  bnd (ld (.agg (.pair .bool .str)) p2) fun (v14 : (Bool × ByteArray)) =>
  bnd (f36_largeint_Sub v13 v14) fun (r15 : ((Bool × ByteArray) × Int)) =>
  bnd (newC 23 [.bool false, .string (ByteArray.mk #[])]) fun (p16 : Addr) =>
  bnd (wrs p16 0 [.bool r15.1.1, .string r15.1.2]) fun _ =>
  bnd (
  cnd (r15.2 != (0 : Int)) (
  ret true) (
  bnd (ld (.agg (.pair .bool .str)) p16) fun (v17 : (Bool × ByteArray)) =>
  bnd (ld (.agg (.pair .bool .str)) p1) fun (v18 : (Bool × ByteArray)) =>
  ret (!((v17.1 == v18.1) && (strEq v17.2 v18.2))))) fun (b19 : Bool) =>
  cnd b19 (
  ret (Sum.inr false)) (
  ret (Sum.inl ()))) (
  ret (Sum.inl ()))) (fun
  | .inl (s12 : Unit) =>
  bnd (ld (.agg (.pair .bool .str)) p2) fun (v22 : (Bool × ByteArray)) =>
  cnd ((v22.1 == false) && (strEq v22.2 (ByteArray.mk #[]))) (
  bnd (ld (.agg (.pair .bool .str)) p1) fun (v23 : (Bool × ByteArray)) =>
  bnd (ld (.agg (.pair .bool .str)) p2) fun (v24 : (Bool × ByteArray)) =>
  bnd (f16_largeint_Quo v23 v24) fun (r25 : ((Bool × ByteArray) × ((Bool × ByteArray) × Int))) =>
  bnd (newC 23 [.bool false, .string (ByteArray.mk #[])]) fun (p26 : Addr) =>
  bnd (newC 23 [.bool false, .string (ByteArray.mk #[])]) fun (p27 : Addr) =>
  bnd (wrs p26 0 [.bool r25.1.1, .string r25.1.2]) fun _ =>
  bnd (wrs p27 0 [.bool r25.2.1.1, .string r25.2.1.2]) fun _ =>
  ret (cond r3 (r25.2.2 == (90 : Int)) false)) (
  bnd (ld (.agg (.pair .bool .str)) p1) fun (v28 : (Bool × ByteArray)) =>
  bnd (ld (.agg (.pair .bool .str)) p2) fun (v29 : (Bool × ByteArray)) =>
  bnd (f38_largeint_Mul v28 v29) fun (r30 : ((Bool × ByteArray) × Int)) =>
  bnd (newC 23 [.bool false, .string (ByteArray.mk #[])]) fun (p31 : Addr) =>
  bnd (wrs p31 0 [.bool r30.1.1, .string r30.1.2]) fun _ =>
  bnd (
  cnd (r30.2 == (0 : Int)) (
  bnd (ld (.agg (.pair .bool .str)) p31) fun (v33 : (Bool × ByteArray)) =>
  bnd (ld (.agg (.pair .bool .str)) p2) fun (v34 : (Bool × ByteArray)) =>
  bnd (f14_largeint_Div v33 v34) fun (r35 : ((Bool × ByteArray) × ((Bool × ByteArray) × Int))) =>
  bnd (newC 23 [.bool false, .string (ByteArray.mk #[])]) fun (p36 : Addr) =>
  bnd (newC 23 [.bool false, .string (ByteArray.mk #[])]) fun (p37 : Addr) =>
  bnd (wrs p36 0 [.bool r35.1.1, .string r35.1.2]) fun _ =>
  bnd (wrs p37 0 [.bool r35.2.1.1, .string r35.2.1.2]) fun _ =>
  bnd (
  cnd (r35.2.2 != (0 : Int)) (
  ret true) (
  bnd (ld (.agg (.pair .bool .str)) p36) fun (v38 : (Bool × ByteArray)) =>
  bnd (ld (.agg (.pair .bool .str)) p1) fun (v39 : (Bool × ByteArray)) =>
  ret (!((v38.1 == v39.1) && (strEq v38.2 v39.2))))) fun (b40 : Bool) =>
  bnd (
  cnd b40 (
  ret true) (
  bnd (ld (.agg (.pair .bool .str)) p37) fun (v41 : (Bool × ByteArray)) =>
  ret (!((v41.1 == false) && (strEq v41.2 (ByteArray.mk #[])))))) fun (b42 : Bool) =>
  cnd b42 (
  ret (Sum.inr false)) (
  ret (Sum.inl ()))) (
  ret (Sum.inl ()))) (fun
  | .inl (s32 : Unit) =>
  loopM (fun (s45 : Int) =>
  cnd (decide (s45 < (2 : Int))) (
  bnd (
  bnd (ld (.agg (.pair .bool .str)) p1) fun (v47 : (Bool × ByteArray)) =>
  bnd (ld (.agg (.pair .bool .str)) p2) fun (v48 : (Bool × ByteArray)) =>
  bnd (f14_largeint_Div v47 v48) fun (r49 : ((Bool × ByteArray) × ((Bool × ByteArray) × Int))) =>
  bnd (newC 23 [.bool false, .string (ByteArray.mk #[])]) fun (p50 : Addr) =>
  bnd (newC 23 [.bool false, .string (ByteArray.mk #[])]) fun (p51 : Addr) =>
  bnd (wrs p50 0 [.bool r49.1.1, .string r49.1.2]) fun _ =>
  bnd (wrs p51 0 [.bool r49.2.1.1, .string r49.2.1.2]) fun _ =>
  bnd (
  cnd (s45 == (1 : Int)) (
  bnd (ld (.agg (.pair .bool .str)) p1) fun (v53 : (Bool × ByteArray)) =>
  bnd (ld (.agg (.pair .bool .str)) p2) fun (v54 : (Bool × ByteArray)) =>
  bnd (f16_largeint_Quo v53 v54) fun (r55 : ((Bool × ByteArray) × ((Bool × ByteArray) × Int))) =>
  bnd (wrs p50 0 [.bool r55.1.1, .string r55.1.2]) fun _ =>
  bnd (wrs p51 0 [.bool r55.2.1.1, .string r55.2.1.2]) fun _ =>
  ret r55.2.2) (
  ret r49.2.2)) fun (s52 : Int) =>
  cnd (cond (s52 == (92 : Int)) (s45 == (0 : Int)) false) (
  ret (Sum.inl ())) (
  bnd (ld (.agg (.pair .bool .str)) p50) fun (v56 : (Bool × ByteArray)) =>
  bnd (ld (.agg (.pair .bool .str)) p2) fun (v57 : (Bool × ByteArray)) =>
  bnd (f38_largeint_Mul v56 v57) fun (r58 : ((Bool × ByteArray) × Int)) =>
  bnd (newC 23 [.bool false, .string (ByteArray.mk #[])]) fun (p59 : Addr) =>
  bnd (wrs p59 0 [.bool r58.1.1, .string r58.1.2]) fun _ =>
  cnd (cond (r58.2 == (92 : Int)) (s45 == (0 : Int)) false) (
  ret (Sum.inl ())) (
  bnd (ld (.agg (.pair .bool .str)) p59) fun (v60 : (Bool × ByteArray)) =>
  bnd (ld (.agg (.pair .bool .str)) p51) fun (v61 : (Bool × ByteArray)) =>
  bnd (f35_largeint_Add v60 v61) fun (r62 : ((Bool × ByteArray) × Int)) =>
  bnd (newC 23 [.bool false, .string (ByteArray.mk #[])]) fun (p63 : Addr) =>
  bnd (wrs p63 0 [.bool r62.1.1, .string r62.1.2]) fun _ =>
  bnd (
  cnd (cond (cond (s52 != (0 : Int)) true (r58.2 != (0 : Int))) true (r62.2 != (0 : Int))) (
  ret true) (
  bnd (ld (.agg (.pair .bool .str)) p63) fun (v64 : (Bool × ByteArray)) =>
  bnd (ld (.agg (.pair .bool .str)) p1) fun (v65 : (Bool × ByteArray)) =>
  ret (!((v64.1 == v65.1) && (strEq v64.2 v65.2))))) fun (b66 : Bool) =>
  cnd b66 (
  ret (Sum.inr (Sum.inr false))) (
  bnd (ld .str (Addr.add p51 1)) fun (v68 : ByteArray) =>
  bnd (ld .str (Addr.add p2 1)) fun (v69 : ByteArray) =>
  bnd (f39_largeint_Cmp (false, v68) (false, v69)) fun (r70 : (Int × Int)) =>
  bnd (ld .bool (Addr.add p2 0)) fun (v71 : Bool) =>
  bnd (
  cnd (s45 == (1 : Int)) (
  bnd (ld .bool (Addr.add p1 0)) fun (v73 : Bool) =>
  ret v73) (
  ret v71)) fun (s72 : Bool) =>
  bnd (
  cnd (decide (r70.1 ≥ (0 : Int))) (
  ret true) (
  bnd (ld (.agg (.pair .bool .str)) p51) fun (v74 : (Bool × ByteArray)) =>
  bnd (
  cnd (!((v74.1 == false) && (strEq v74.2 (ByteArray.mk #[])))) (
  bnd (ld .bool (Addr.add p51 0)) fun (v75 : Bool) =>
  ret (!(v75 == s72))) (
  ret false)) fun (b76 : Bool) =>
  ret b76)) fun (b77 : Bool) =>
  cnd b77 (
  ret (Sum.inr (Sum.inr false))) (
  ret (Sum.inl ())))))) (fun
  | .inl (s46 : Unit) =>
  ret (Sum.inl (IntKind.wrap .i64 (s45 + (1 : Int))))
  | .inr r80 => ret r80)) (
  ret (Sum.inr r3))) (0 : Int)
  | .inr r81 => ret r81))
  | .inr r82 => ret r82))
noncomputable def Af9_palaverlaw09_LargeBack : Ann := (.two .nil (.two .nil (.two .nil (.two .nil (.two (.two .nil (.two (.two .nil .nil) .nil)) (.two .nil (.two (.two .nil (.join [] [4, 10, 11, 50, 51, 52, 53, 54, 55, 56, 57, 58, 59, 60, 61, 62] true (.two (.two .nil (.two .nil (.two (.two .nil .nil) .nil))) .nil))) (.two (.two .nil (.two (.two .nil (.two .nil .nil)) .nil)) (.two .nil (.two (.two .nil (.join [] [4, 16, 17, 18, 86, 87, 88, 89, 90, 91, 92, 93, 94, 95, 96, 97, 98, 99, 100, 101, 102, 103, 104] true (.two (.two .nil (.two .nil (.two (.two .nil .nil) .nil))) .nil))) (.two (.two .nil (.one (.loop [(19, (.int .i64))] [4, 20, 21, 22, 23, 24, 25, 26, 27, 28, 29, 105, 106, 107, 108, 109, 110, 111, 112, 113, 114, 115, 116, 117, 118, 119, 120, 121, 122, 123, 124, 125, 126, 127, 128, 129, 130, 131, 132, 133, 134, 135, 136, 137, 138, 139, 140, 141, 142, 143, 144, 145, 146, 147, 148, 149, 150, 151, 152, 153, 154, 155, 156, 157, 158, 159, 160, 161, 162, 163, 164, 165, 166, 167, 168, 169, 170, 171, 172, 173, 174, 175, 176, 177, 178, 179, 180, 181, 182, 183, 184, 185, 186, 187, 188, 189, 190, 191, 192] (.two (.two .nil (.two .nil .nil)) (.two (.join [] [4, 20, 21, 22, 23, 24, 25, 26, 27, 28, 29, 109, 110, 111, 112, 113, 114, 115, 116, 117, 118, 119, 120, 121, 122, 123, 124, 125, 126, 127, 128, 129, 130, 131, 132, 133, 134, 135, 136, 137, 138, 139, 140, 141, 142, 143, 144, 145, 146, 147, 148, 149, 150, 151, 152, 153, 154, 155, 156, 157, 158, 159, 160, 161, 162, 163, 164, 165, 166, 167, 168, 169, 170, 171, 172, 173, 174, 175, 176, 177, 178, 179, 180, 181, 182, 183, 184, 185, 186, 187, 188, 189, 190, 191, 192] true (.one (.two .nil (.two (.two .nil (.join [(22, (.int .i64))] [118, 119, 120, 121, 122, 123, 124] false (.two .nil .nil))) (.two (.two .nil (.two .nil .nil)) (.two .nil (.two (.two .nil (.two .nil .nil)) (.two .nil (.two (.two .nil (.two (.two .nil .nil) .nil)) (.two .nil (.two .nil (.two (.two .nil (.join [(29, .bool)] [178, 179] false (.two .nil .nil))) (.two .nil (.two (.two .nil .nil) .nil)))))))))))))) .nil))))) (.two .nil .nil))))))))))))
theorem Cf9_palaverlaw09_LargeBack_ok : Cf9_palaverlaw09_LargeBack.Ok := mkC_ok mixed tysOk zerosOk eqsOk ⟨Sf12_palaverlaw09_works, Sf14_largeint_Div, Sf16_largeint_Quo, Sf34_largeint_Check, Sf35_largeint_Add, Sf36_largeint_Sub, Sf38_largeint_Mul, Sf39_largeint_Cmp, trivial⟩ trivial
theorem Ef9_palaverlaw09_LargeBack (x : ((Bool × ByteArray) × (Bool × ByteArray))) : evF Cf9_palaverlaw09_LargeBack Try.f9 194 (.pair (.agg (.pair .bool .str)) (.agg (.pair .bool .str))) .bool Af9_palaverlaw09_LargeBack x = f9_palaverlaw09_LargeBack x.1 x.2 := by kernel_rfl
theorem Sf9_palaverlaw09_LargeBack : SoundF Try.prog 9 ⟨(.pair (.agg (.pair .bool .str)) (.agg (.pair .bool .str))), .bool, fun x => f9_palaverlaw09_LargeBack x.1 x.2⟩ :=
  soundF_of Cf9_palaverlaw09_LargeBack_ok Try.func9 (by kernel_rfl) (by kernel_rfl) Ef9_palaverlaw09_LargeBack
noncomputable def Cf10_palaverlaw09_LargeRing : Ctx := mkC Try.prog tys zeros eqs [(12, ⟨.unit, .bool, fun _ => f12_palaverlaw09_works⟩), (34, ⟨(.agg (.pair .bool .str)), (.int .i64), fun x => f34_largeint_Check x⟩), (35, ⟨(.pair (.agg (.pair .bool .str)) (.agg (.pair .bool .str))), (.tup (.pair (.agg (.pair .bool .str)) (.int .i64))), fun x => f35_largeint_Add x.1 x.2⟩), (36, ⟨(.pair (.agg (.pair .bool .str)) (.agg (.pair .bool .str))), (.tup (.pair (.agg (.pair .bool .str)) (.int .i64))), fun x => f36_largeint_Sub x.1 x.2⟩), (38, ⟨(.pair (.agg (.pair .bool .str)) (.agg (.pair .bool .str))), (.tup (.pair (.agg (.pair .bool .str)) (.int .i64))), fun x => f38_largeint_Mul x.1 x.2⟩), (39, ⟨(.pair (.agg (.pair .bool .str)) (.agg (.pair .bool .str))), (.tup (.pair (.int .i64) (.int .i64))), fun x => f39_largeint_Cmp x.1 x.2⟩)] []
/-- palaverpalaverlaw09.LargeRing -/
noncomputable def f10_palaverlaw09_LargeRing (x0 : (Bool × ByteArray)) (x1 : (Bool × ByteArray)) (x2 : (Bool × ByteArray)) : M Bool :=
  bnd (newC 23 [.bool x0.1, .string x0.2]) fun (p1 : Addr) =>
  bnd (newC 23 [.bool x1.1, .string x1.2]) fun (p2 : Addr) =>
  bnd (newC 23 [.bool x2.1, .string x2.2]) fun (p3 : Addr) =>
  bnd f12_palaverlaw09_works fun (r4 : Bool) =>
  bnd (ld (.agg (.pair .bool .str)) p1) fun (v5 : (Bool × ByteArray)) =>
  bnd (ld (.agg (.pair .bool .str)) p2) fun (v6 : (Bool × ByteArray)) =>
  bnd (f35_largeint_Add v5 v6) fun (r7 : ((Bool × ByteArray) × Int)) =>
  bnd (newC 23 [.bool false, .string (ByteArray.mk #[])]) fun (p8 : Addr) =>
  bnd (wrs p8 0 [.bool r7.1.1, .string r7.1.2]) fun _ =>
  bnd (ld (.agg (.pair .bool .str)) p2) fun (v9 : (Bool × ByteArray)) =>
  bnd (ld (.agg (.pair .bool .str)) p1) fun (v10 : (Bool × ByteArray)) =>
  bnd (f35_largeint_Add v9 v10) fun (r11 : ((Bool × ByteArray) × Int)) =>
  bnd (newC 23 [.bool false, .string (ByteArray.mk #[])]) fun (p12 : Addr) =>
  bnd (wrs p12 0 [.bool r11.1.1, .string r11.1.2]) fun _ =>
  bnd (ld (.agg (.pair .bool .str)) p1) fun (v13 : (Bool × ByteArray)) =>
  bnd (ld (.agg (.pair .bool .str)) p2) fun (v14 : (Bool × ByteArray)) =>
  bnd (f38_largeint_Mul v13 v14) fun (r15 : ((Bool × ByteArray) × Int)) =>
  bnd (newC 23 [.bool false, .string (ByteArray.mk #[])]) fun (p16 : Addr) =>
  bnd (wrs p16 0 [.bool r15.1.1, .string r15.1.2]) fun _ =>
  bnd (ld (.agg (.pair .bool .str)) p2) fun (v17 : (Bool × ByteArray)) =>
  bnd (ld (.agg (.pair .bool .str)) p1) fun (v18 : (Bool × ByteArray)) =>
  bnd (f38_largeint_Mul v17 v18) fun (r19 : ((Bool × ByteArray) × Int)) =>
  bnd (newC 23 [.bool false, .string (ByteArray.mk #[])]) fun (p20 : Addr) =>
  bnd (wrs p20 0 [.bool r19.1.1, .string r19.1.2]) fun _ =>
  bnd (ld (.agg (.pair .bool .str)) p1) fun (v21 : (Bool × ByteArray)) =>
  bnd (f34_largeint_Check v21) fun (r22 : Int) =>
  bnd (
  cnd (r22 != (0 : Int)) (
  ret true) (
  bnd (ld (.agg (.pair .bool .str)) p2) fun (v23 : (Bool × ByteArray)) =>
  bnd (f34_largeint_Check v23) fun (r24 : Int) =>
  ret (r24 != (0 : Int)))) fun (b25 : Bool) =>
  bnd (
  cnd b25 (
  ret true) (
  bnd (ld (.agg (.pair .bool .str)) p3) fun (v26 : (Bool × ByteArray)) =>
  bnd (f34_largeint_Check v26) fun (r27 : Int) =>
  ret (r27 != (0 : Int)))) fun (b28 : Bool) =>
  cnd b28 (
  ret r4) (
  bnd (ld (.agg (.pair .bool .str)) p8) fun (v29 : (Bool × ByteArray)) =>
  bnd (ld (.agg (.pair .bool .str)) p12) fun (v30 : (Bool × ByteArray)) =>
  bnd (
  cnd (cond (!((v29.1 == v30.1) && (strEq v29.2 v30.2))) true (r7.2 != r11.2)) (
  ret true) (
  bnd (ld (.agg (.pair .bool .str)) p16) fun (v31 : (Bool × ByteArray)) =>
  bnd (ld (.agg (.pair .bool .str)) p20) fun (v32 : (Bool × ByteArray)) =>
  ret (!((v31.1 == v32.1) && (strEq v31.2 v32.2))))) fun (b33 : Bool) =>
  cnd (cond b33 true (r15.2 != r19.2)) (
  ret false) (
  bnd (ld (.agg (.pair .bool .str)) p8) fun (v34 : (Bool × ByteArray)) =>
  bnd (ld (.agg (.pair .bool .str)) p3) fun (v35 : (Bool × ByteArray)) =>
  bnd (f38_largeint_Mul v34 v35) fun (r36 : ((Bool × ByteArray) × Int)) =>
  bnd (newC 23 [.bool false, .string (ByteArray.mk #[])]) fun (p37 : Addr) =>
  bnd (wrs p37 0 [.bool r36.1.1, .string r36.1.2]) fun _ =>
  bnd (ld (.agg (.pair .bool .str)) p1) fun (v38 : (Bool × ByteArray)) =>
  bnd (ld (.agg (.pair .bool .str)) p3) fun (v39 : (Bool × ByteArray)) =>
  bnd (f38_largeint_Mul v38 v39) fun (r40 : ((Bool × ByteArray) × Int)) =>
  bnd (newC 23 [.bool false, .string (ByteArray.mk #[])]) fun (p41 : Addr) =>
  bnd (wrs p41 0 [.bool r40.1.1, .string r40.1.2]) fun _ =>
  bnd (ld (.agg (.pair .bool .str)) p2) fun (v42 : (Bool × ByteArray)) =>
  bnd (ld (.agg (.pair .bool .str)) p3) fun (v43 : (Bool × ByteArray)) =>
  bnd (f38_largeint_Mul v42 v43) fun (r44 : ((Bool × ByteArray) × Int)) =>
  bnd (newC 23 [.bool false, .string (ByteArray.mk #[])]) fun (p45 : Addr) =>
  bnd (wrs p45 0 [.bool r44.1.1, .string r44.1.2]) fun _ =>
  bnd (ld (.agg (.pair .bool .str)) p41) fun (v46 : (Bool × ByteArray)) =>
  bnd (ld (.agg (.pair .bool .str)) p45) fun (v47 : (Bool × ByteArray)) =>
  bnd (f35_largeint_Add v46 v47) fun (r48 : ((Bool × ByteArray) × Int)) =>
  bnd (newC 23 [.bool false, .string (ByteArray.mk #[])]) fun (p49 : Addr) =>
  bnd (wrs p49 0 [.bool r48.1.1, .string r48.1.2]) fun _ =>
  cnd (cond (cond (cond (cond (r7.2 != (0 : Int)) true (r36.2 != (0 : Int))) true (r40.2 != (0 : Int))) true (r44.2 != (0 : Int))) true (r48.2 != (0 : Int))) (
  ret r4) (
  bnd (ld (.agg (.pair .bool .str)) p1) fun (v50 : (Bool × ByteArray)) =>
  bnd (ld (.agg (.pair .bool .str)) p2) fun (v51 : (Bool × ByteArray)) =>
  bnd (f39_largeint_Cmp v50 v51) fun (r52 : (Int × Int)) =>
  bnd (ld (.agg (.pair .bool .str)) p2) fun (v53 : (Bool × ByteArray)) =>
  bnd (ld (.agg (.pair .bool .str)) p1) fun (v54 : (Bool × ByteArray)) =>
  bnd (f39_largeint_Cmp v53 v54) fun (r55 : (Int × Int)) =>
  bnd (ld (.agg (.pair .bool .str)) p1) fun (v56 : (Bool × ByteArray)) =>
  bnd (ld (.agg (.pair .bool .str)) p2) fun (v57 : (Bool × ByteArray)) =>
  bnd (f36_largeint_Sub v56 v57) fun (r58 : ((Bool × ByteArray) × Int)) =>
  bnd (newC 23 [.bool false, .string (ByteArray.mk #[])]) fun (p59 : Addr) =>
  bnd (wrs p59 0 [.bool r58.1.1, .string r58.1.2]) fun _ =>
  bnd (ld (.agg (.pair .bool .str)) p59) fun (v60 : (Bool × ByteArray)) =>
  bnd (f39_largeint_Cmp v60 (false, (ByteArray.mk #[]))) fun (r61 : (Int × Int)) =>
  bnd (
  cnd r4 (
  bnd (ld (.agg (.pair .bool .str)) p37) fun (v62 : (Bool × ByteArray)) =>
  bnd (ld (.agg (.pair .bool .str)) p49) fun (v63 : (Bool × ByteArray)) =>
  ret ((v62.1 == v63.1) && (strEq v62.2 v63.2))) (
  ret false)) fun (b64 : Bool) =>
  ret (cond (cond b64 (r52.1 == (IntKind.wrap .i64 (0 - r55.1))) false) (cond (r58.2 != (0 : Int)) true (r61.1 == r52.1)) false))))
noncomputable def Af10_palaverlaw09_LargeRing : Ann := (.two .nil (.two .nil (.two .nil (.two .nil (.two .nil (.two .nil (.two .nil (.two (.two .nil (.two (.two .nil .nil) .nil)) (.two (.two .nil (.two (.two .nil .nil) .nil)) (.two .nil (.two .nil (.two .nil (.two .nil (.two (.two .nil (.two (.two .nil .nil) .nil)) (.two .nil (.two .nil (.two .nil (.two .nil (.two .nil .nil)))))))))))))))))))
theorem Cf10_palaverlaw09_LargeRing_ok : Cf10_palaverlaw09_LargeRing.Ok := mkC_ok mixed tysOk zerosOk eqsOk ⟨Sf12_palaverlaw09_works, Sf34_largeint_Check, Sf35_largeint_Add, Sf36_largeint_Sub, Sf38_largeint_Mul, Sf39_largeint_Cmp, trivial⟩ trivial
theorem Ef10_palaverlaw09_LargeRing (x : ((Bool × ByteArray) × ((Bool × ByteArray) × (Bool × ByteArray)))) : evF Cf10_palaverlaw09_LargeRing Try.f10 179 (.pair (.agg (.pair .bool .str)) (.pair (.agg (.pair .bool .str)) (.agg (.pair .bool .str)))) .bool Af10_palaverlaw09_LargeRing x = f10_palaverlaw09_LargeRing x.1 x.2.1 x.2.2 := by kernel_rfl
theorem Sf10_palaverlaw09_LargeRing : SoundF Try.prog 10 ⟨(.pair (.agg (.pair .bool .str)) (.pair (.agg (.pair .bool .str)) (.agg (.pair .bool .str)))), .bool, fun x => f10_palaverlaw09_LargeRing x.1 x.2.1 x.2.2⟩ :=
  soundF_of Cf10_palaverlaw09_LargeRing_ok Try.func10 (by kernel_rfl) (by kernel_rfl) Ef10_palaverlaw09_LargeRing
noncomputable def Cf41_largeint_Small : Ctx := mkC Try.prog tys zeros eqs [(34, ⟨(.agg (.pair .bool .str)), (.int .i64), fun x => f34_largeint_Check x⟩)] []
/-- palaverlargeint.Small -/
noncomputable def f41_largeint_Small (x0 : (Bool × ByteArray)) : M (Int × Bool) :=
  bnd (newC 23 [.bool x0.1, .string x0.2]) fun (p1 : Addr) =>
  bnd (ld (.agg (.pair .bool .str)) p1) fun (v2 : (Bool × ByteArray)) =>
  bnd (f34_largeint_Check v2) fun (r3 : Int) =>
  bnd (
  cnd (r3 != (0 : Int)) (
  ret true) (
  bnd (ld .str (Addr.add p1 1)) fun (v4 : ByteArray) =>
  ret (decide ((ByteArray.size v4 : Int) > (8 : Int))))) fun (b5 : Bool) =>
  cnd b5 (
  ret ((0 : Int), false)) (
  bnd (ld .str (Addr.add p1 1)) fun (v6 : ByteArray) =>
  loopM (fun (s7 : (Int × Int)) =>
  cnd (decide (s7.2 < (ByteArray.size v6 : Int))) (
  bnd (ld .str (Addr.add p1 1)) fun (v8 : ByteArray) =>
  bnd (ixS v8 s7.2) fun (v9 : Int) =>
  bnd (cnt (IntKind.wrap .i64 ((8 : Int) * s7.2))) fun (c10 : Nat) =>
  ret (Sum.inl ((bOr .u64 s7.1 (shlI .u64 (IntKind.wrap .u64 v9) c10)), (IntKind.wrap .i64 (s7.2 + (1 : Int)))))) (
  bnd (
  bnd (ld .bool (Addr.add p1 0)) fun (v11 : Bool) =>
  bnd (
  cnd v11 (
  ret (IntKind.wrap .i64 (0 - (IntKind.wrap .i64 s7.1)))) (
  ret (IntKind.wrap .i64 s7.1))) fun (s12 : Int) =>
  bnd (ld .bool (Addr.add p1 0)) fun (v13 : Bool) =>
  cnd (!((decide (s12 < (0 : Int))) == v13)) (
  ret ((0 : Int), false)) (
  ret (s12, true))) fun r14 =>
  ret (Sum.inr r14))) ((0 : Int), (0 : Int)))
noncomputable def Af41_largeint_Small : Ann := (.two .nil (.two (.two .nil (.two (.two .nil .nil) .nil)) (.two .nil (.two (.two .nil (.one (.loop [(4, (.int .u64)), (19, (.int .i64))] [5, 20, 21, 22, 23, 24, 25, 26, 27, 28, 29, 30, 31, 32] (.two .nil (.two (.two .nil .nil) (.two (.one (.two .nil .nil)) .nil)))))) (.two .nil (.two (.two .nil (.join [(6, (.int .i64))] [37, 38] false (.two .nil .nil))) (.two (.two .nil (.two (.two .nil .nil) .nil)) (.two .nil .nil))))))))
theorem Cf41_largeint_Small_ok : Cf41_largeint_Small.Ok := mkC_ok mixed tysOk zerosOk eqsOk ⟨Sf34_largeint_Check, trivial⟩ trivial
theorem Ef41_largeint_Small (x : (Bool × ByteArray)) : evF Cf41_largeint_Small Try.f41 45 (.agg (.pair .bool .str)) (.tup (.pair (.int .i64) .bool)) Af41_largeint_Small x = f41_largeint_Small x := by kernel_rfl
theorem Sf41_largeint_Small : SoundF Try.prog 41 ⟨(.agg (.pair .bool .str)), (.tup (.pair (.int .i64) .bool)), fun x => f41_largeint_Small x⟩ :=
  soundF_of Cf41_largeint_Small_ok Try.func41 (by kernel_rfl) (by kernel_rfl) Ef41_largeint_Small
noncomputable def Cf42_palaverref09_Small : Ctx := mkC Try.prog tys zeros eqs [(43, ⟨(.agg (.pair .bool .str)), (.int .i64), fun x => f43_palaverref09_Check x⟩)] []
/-- palaverpalaverref09.Small -/
noncomputable def f42_palaverref09_Small (x0 : (Bool × ByteArray)) : M (Int × Bool) :=
  bnd (newC 23 [.bool x0.1, .string x0.2]) fun (p1 : Addr) =>
  bnd (ld (.agg (.pair .bool .str)) p1) fun (v2 : (Bool × ByteArray)) =>
  bnd (f43_palaverref09_Check v2) fun (r3 : Int) =>
  bnd (
  cnd (r3 != (0 : Int)) (
  ret true) (
  bnd (ld .str (Addr.add p1 1)) fun (v4 : ByteArray) =>
  ret (decide ((ByteArray.size v4 : Int) > (8 : Int))))) fun (b5 : Bool) =>
  cnd b5 (
  ret ((0 : Int), false)) (
  bnd (ld .str (Addr.add p1 1)) fun (v6 : ByteArray) =>
  loopM (fun (s7 : (Int × Int)) =>
  cnd (decide (s7.2 ≥ (0 : Int))) (
  bnd (ld .str (Addr.add p1 1)) fun (v8 : ByteArray) =>
  bnd (ixS v8 s7.2) fun (v9 : Int) =>
  ret (Sum.inl ((IntKind.wrap .u64 ((IntKind.wrap .u64 (s7.1 * (256 : Int))) + (IntKind.wrap .u64 v9))), (IntKind.wrap .i64 (s7.2 - (1 : Int)))))) (
  bnd (
  bnd (ld .bool (Addr.add p1 0)) fun (v10 : Bool) =>
  cnd v10 (
  cnd (decide (s7.1 > (9223372036854775808 : Int))) (
  ret ((0 : Int), false)) (
  ret ((IntKind.wrap .i64 (IntKind.wrap .u64 (0 - s7.1))), true))) (
  cnd (decide (s7.1 > (9223372036854775807 : Int))) (
  ret ((0 : Int), false)) (
  ret ((IntKind.wrap .i64 s7.1), true)))) fun r11 =>
  ret (Sum.inr r11))) ((0 : Int), (IntKind.wrap .i64 ((ByteArray.size v6 : Int) - (1 : Int)))))
noncomputable def Af42_palaverref09_Small : Ann := (.two .nil (.two (.two .nil (.two (.two .nil .nil) .nil)) (.two .nil (.two (.two .nil (.one (.loop [(4, (.int .u64)), (5, (.int .i64))] [19, 20, 21, 22, 23, 24, 25, 26, 27, 28, 29, 30] (.two (.two .nil (.two .nil .nil)) (.two (.one .nil) .nil))))) (.two (.two .nil (.two (.two (.two .nil (.two (.two .nil .nil) .nil)) (.two .nil .nil)) .nil)) (.two (.two .nil (.two (.two .nil .nil) .nil)) (.two .nil .nil)))))))
theorem Cf42_palaverref09_Small_ok : Cf42_palaverref09_Small.Ok := mkC_ok mixed tysOk zerosOk eqsOk ⟨Sf43_palaverref09_Check, trivial⟩ trivial
theorem Ef42_palaverref09_Small (x : (Bool × ByteArray)) : evF Cf42_palaverref09_Small Try.f42 42 (.agg (.pair .bool .str)) (.tup (.pair (.int .i64) .bool)) Af42_palaverref09_Small x = f42_palaverref09_Small x := by kernel_rfl
theorem Sf42_palaverref09_Small : SoundF Try.prog 42 ⟨(.agg (.pair .bool .str)), (.tup (.pair (.int .i64) .bool)), fun x => f42_palaverref09_Small x⟩ :=
  soundF_of Cf42_palaverref09_Small_ok Try.func42 (by kernel_rfl) (by kernel_rfl) Ef42_palaverref09_Small
noncomputable def Cf44_palaverref09_Cmp : Ctx := mkC Try.prog tys zeros eqs [(55, ⟨(.pair (.agg (.pair .bool .str)) (.agg (.pair .bool .str))), (.int .i64), fun x => f55_palaverref09_both x.1 x.2⟩), (79, ⟨(.pair .sl .sl), (.int .i64), fun x => f79_palaverref09_cmp x.1 x.2⟩)] []
/-- palaverpalaverref09.Cmp -/
noncomputable def f44_palaverref09_Cmp (x0 : (Bool × ByteArray)) (x1 : (Bool × ByteArray)) : M (Int × Int) :=
  bnd (newC 23 [.bool x0.1, .string x0.2]) fun (p1 : Addr) =>
  bnd (newC 23 [.bool x1.1, .string x1.2]) fun (p2 : Addr) =>
  bnd (ld (.agg (.pair .bool .str)) p1) fun (v3 : (Bool × ByteArray)) =>
  bnd (ld (.agg (.pair .bool .str)) p2) fun (v4 : (Bool × ByteArray)) =>
  bnd (f55_palaverref09_both v3 v4) fun (r5 : Int) =>
  cnd (r5 != (0 : Int)) (
  ret ((0 : Int), r5)) (
  bnd (ld .bool (Addr.add p1 0)) fun (v6 : Bool) =>
  bnd (
  cnd v6 (
  bnd (ld .bool (Addr.add p2 0)) fun (v7 : Bool) =>
  ret (!v7)) (
  ret false)) fun (b8 : Bool) =>
  cnd b8 (
  ret ((-1 : Int), (0 : Int))) (
  bnd (ld .bool (Addr.add p1 0)) fun (v9 : Bool) =>
  bnd (
  cnd (!v9) (
  bnd (ld .bool (Addr.add p2 0)) fun (v10 : Bool) =>
  ret v10) (
  ret false)) fun (b11 : Bool) =>
  cnd b11 (
  ret ((1 : Int), (0 : Int))) (
  bnd (ld .bool (Addr.add p1 0)) fun (v12 : Bool) =>
  cnd v12 (
  bnd (ld .str (Addr.add p2 1)) fun (v13 : ByteArray) =>
  bnd (runV Try.prog .sl (convert 9 61 (.string v13))) fun (v14 : Sl) =>
  bnd (ld .str (Addr.add p1 1)) fun (v15 : ByteArray) =>
  bnd (runV Try.prog .sl (convert 9 61 (.string v15))) fun (v16 : Sl) =>
  bnd (f79_palaverref09_cmp v14 v16) fun (r17 : Int) =>
  ret (r17, (0 : Int))) (
  bnd (ld .str (Addr.add p1 1)) fun (v18 : ByteArray) =>
  bnd (runV Try.prog .sl (convert 9 61 (.string v18))) fun (v19 : Sl) =>
  bnd (ld .str (Addr.add p2 1)) fun (v20 : ByteArray) =>
  bnd (runV Try.prog .sl (convert 9 61 (.string v20))) fun (v21 : Sl) =>
  bnd (f79_palaverref09_cmp v19 v21) fun (r22 : Int) =>
  ret (r22, (0 : Int))))))
noncomputable def Af44_palaverref09_Cmp : Ann := (.two .nil (.two .nil (.two (.two .nil (.two (.two .nil .nil) .nil)) (.two (.one (.two .nil (.two (.two .nil .nil) (.two .nil (.two (.two .nil .nil) (.two .nil (.two (.two .nil .nil) .nil))))))) (.two .nil .nil)))))
theorem Cf44_palaverref09_Cmp_ok : Cf44_palaverref09_Cmp.Ok := mkC_ok mixed tysOk zerosOk eqsOk ⟨Sf55_palaverref09_both, Sf79_palaverref09_cmp, trivial⟩ trivial
theorem Ef44_palaverref09_Cmp (x : ((Bool × ByteArray) × (Bool × ByteArray))) : evF Cf44_palaverref09_Cmp Try.f44 46 (.pair (.agg (.pair .bool .str)) (.agg (.pair .bool .str))) (.tup (.pair (.int .i64) (.int .i64))) Af44_palaverref09_Cmp x = f44_palaverref09_Cmp x.1 x.2 := by kernel_rfl
theorem Sf44_palaverref09_Cmp : SoundF Try.prog 44 ⟨(.pair (.agg (.pair .bool .str)) (.agg (.pair .bool .str))), (.tup (.pair (.int .i64) (.int .i64))), fun x => f44_palaverref09_Cmp x.1 x.2⟩ :=
  soundF_of Cf44_palaverref09_Cmp_ok Try.func44 (by kernel_rfl) (by kernel_rfl) Ef44_palaverref09_Cmp
noncomputable def Cf45_palaverref09_Add : Ctx := mkC Try.prog tys zeros eqs [(51, ⟨(.pair (.agg (.pair .bool .str)) (.agg (.pair .bool .str))), (.tup (.pair (.agg (.pair .bool .str)) (.int .i64))), fun x => f51_palaverref09_add x.1 x.2⟩), (55, ⟨(.pair (.agg (.pair .bool .str)) (.agg (.pair .bool .str))), (.int .i64), fun x => f55_palaverref09_both x.1 x.2⟩)] []
/-- palaverpalaverref09.Add -/
noncomputable def f45_palaverref09_Add (x0 : (Bool × ByteArray)) (x1 : (Bool × ByteArray)) : M ((Bool × ByteArray) × Int) :=
  bnd (newC 23 [.bool x0.1, .string x0.2]) fun (p1 : Addr) =>
  bnd (newC 23 [.bool x1.1, .string x1.2]) fun (p2 : Addr) =>
  bnd (newC 23 [.bool false, .string (ByteArray.mk #[])]) fun (p3 : Addr) =>
  bnd (ld (.agg (.pair .bool .str)) p1) fun (v4 : (Bool × ByteArray)) =>
  bnd (ld (.agg (.pair .bool .str)) p2) fun (v5 : (Bool × ByteArray)) =>
  bnd (f55_palaverref09_both v4 v5) fun (r6 : Int) =>
  cnd (r6 != (0 : Int)) (
  bnd (wrs p3 0 [.bool false, .string (ByteArray.mk #[])]) fun _ =>
  bnd (ld (.agg (.pair .bool .str)) p3) fun (v7 : (Bool × ByteArray)) =>
  ret (v7, r6)) (
  bnd (ld (.agg (.pair .bool .str)) p1) fun (v8 : (Bool × ByteArray)) =>
  bnd (ld (.agg (.pair .bool .str)) p2) fun (v9 : (Bool × ByteArray)) =>
  bnd (f51_palaverref09_add v8 v9) fun (r10 : ((Bool × ByteArray) × Int)) =>
  bnd (wrs p3 0 [.bool r10.1.1, .string r10.1.2]) fun _ =>
  bnd (ld (.agg (.pair .bool .str)) p3) fun (v11 : (Bool × ByteArray)) =>
  ret (v11, r10.2))
noncomputable def Af45_palaverref09_Add : Ann := (.two .nil (.two .nil (.two (.two .nil (.two (.two .nil .nil) .nil)) (.two .nil .nil))))
theorem Cf45_palaverref09_Add_ok : Cf45_palaverref09_Add.Ok := mkC_ok mixed tysOk zerosOk eqsOk ⟨Sf51_palaverref09_add, Sf55_palaverref09_both, trivial⟩ trivial
theorem Ef45_palaverref09_Add (x : ((Bool × ByteArray) × (Bool × ByteArray))) : evF Cf45_palaverref09_Add Try.f45 19 (.pair (.agg (.pair .bool .str)) (.agg (.pair .bool .str))) (.tup (.pair (.agg (.pair .bool .str)) (.int .i64))) Af45_palaverref09_Add x = f45_palaverref09_Add x.1 x.2 := by kernel_rfl
theorem Sf45_palaverref09_Add : SoundF Try.prog 45 ⟨(.pair (.agg (.pair .bool .str)) (.agg (.pair .bool .str))), (.tup (.pair (.agg (.pair .bool .str)) (.int .i64))), fun x => f45_palaverref09_Add x.1 x.2⟩ :=
  soundF_of Cf45_palaverref09_Add_ok Try.func45 (by kernel_rfl) (by kernel_rfl) Ef45_palaverref09_Add
noncomputable def Cf80_palaverref09_neg : Ctx := mkC Try.prog tys zeros eqs [] []
/-- palaverpalaverref09.neg -/
noncomputable def f80_palaverref09_neg (x0 : (Bool × ByteArray)) : M (Bool × ByteArray) :=
  bnd (newC 23 [.bool x0.1, .string x0.2]) fun (p1 : Addr) =>
  bnd (newC 23 [.bool false, .string (ByteArray.mk #[])]) fun (p2 : Addr) =>
  bnd (ld .bool (Addr.add p1 0)) fun (v3 : Bool) =>
  bnd (
  cnd (!v3) (
  bnd (ld .str (Addr.add p1 1)) fun (v4 : ByteArray) =>
  ret (decide ((ByteArray.size v4 : Int) > (0 : Int)))) (
  ret false)) fun (b5 : Bool) =>
  bnd (ld .str (Addr.add p1 1)) fun (v6 : ByteArray) =>
  bnd (wrs p2 0 [.bool b5, .string v6]) fun _ =>
  bnd (ld (.agg (.pair .bool .str)) p2) fun (v7 : (Bool × ByteArray)) =>
  ret v7
noncomputable def Af80_palaverref09_neg : Ann := (.two .nil (.two .nil .nil))
theorem Cf80_palaverref09_neg_ok : Cf80_palaverref09_neg.Ok := mkC_ok mixed tysOk zerosOk eqsOk trivial trivial
theorem Ef80_palaverref09_neg (x : (Bool × ByteArray)) : evF Cf80_palaverref09_neg Try.f80 15 (.agg (.pair .bool .str)) (.agg (.pair .bool .str)) Af80_palaverref09_neg x = f80_palaverref09_neg x := by kernel_rfl
theorem Sf80_palaverref09_neg : SoundF Try.prog 80 ⟨(.agg (.pair .bool .str)), (.agg (.pair .bool .str)), fun x => f80_palaverref09_neg x⟩ :=
  soundF_of Cf80_palaverref09_neg_ok Try.func80 (by kernel_rfl) (by kernel_rfl) Ef80_palaverref09_neg
noncomputable def Cf46_palaverref09_Sub : Ctx := mkC Try.prog tys zeros eqs [(51, ⟨(.pair (.agg (.pair .bool .str)) (.agg (.pair .bool .str))), (.tup (.pair (.agg (.pair .bool .str)) (.int .i64))), fun x => f51_palaverref09_add x.1 x.2⟩), (55, ⟨(.pair (.agg (.pair .bool .str)) (.agg (.pair .bool .str))), (.int .i64), fun x => f55_palaverref09_both x.1 x.2⟩), (80, ⟨(.agg (.pair .bool .str)), (.agg (.pair .bool .str)), fun x => f80_palaverref09_neg x⟩)] []
/-- palaverpalaverref09.Sub -/
noncomputable def f46_palaverref09_Sub (x0 : (Bool × ByteArray)) (x1 : (Bool × ByteArray)) : M ((Bool × ByteArray) × Int) :=
  bnd (newC 23 [.bool x0.1, .string x0.2]) fun (p1 : Addr) =>
  bnd (newC 23 [.bool x1.1, .string x1.2]) fun (p2 : Addr) =>
  bnd (newC 23 [.bool false, .string (ByteArray.mk #[])]) fun (p3 : Addr) =>
  bnd (ld (.agg (.pair .bool .str)) p1) fun (v4 : (Bool × ByteArray)) =>
  bnd (ld (.agg (.pair .bool .str)) p2) fun (v5 : (Bool × ByteArray)) =>
  bnd (f55_palaverref09_both v4 v5) fun (r6 : Int) =>
  cnd (r6 != (0 : Int)) (
  bnd (wrs p3 0 [.bool false, .string (ByteArray.mk #[])]) fun _ =>
  bnd (ld (.agg (.pair .bool .str)) p3) fun (v7 : (Bool × ByteArray)) =>
  ret (v7, r6)) (
  bnd (
  bnd (ordM 46 4 (regionIn 4 Try.f46)) fun (o9 : List Nat) =>
  bnd (ld (.agg (.pair .bool .str)) p1) fun (v10 : (Bool × ByteArray)) =>
  bnd (ld (.agg (.pair .bool .str)) p2) fun (v11 : (Bool × ByteArray)) =>
  bnd (f80_palaverref09_neg v11) fun (r12 : (Bool × ByteArray)) =>
  bnd (
  bnd (chk (.agg (.pair .bool .str)) p1 v10) fun _ =>
  ret ()) fun _ =>
  bnd (f51_palaverref09_add v10 r12) fun (r13 : ((Bool × ByteArray) × Int)) =>
  bnd (ret ()) fun _ =>
  bnd (wrs p3 0 [.bool r13.1.1, .string r13.1.2]) fun _ =>
  bnd (ret ()) fun _ =>
  ret r13.2) fun (s8 : Int) =>
  bnd (ld (.agg (.pair .bool .str)) p3) fun (v14 : (Bool × ByteArray)) =>
  ret (v14, s8))
noncomputable def Af46_palaverref09_Sub : Ann := (.two .nil (.two .nil (.two (.two .nil (.two (.two .nil .nil) .nil)) (.two (.join [(5, (.int .i64))] [14, 15, 16, 17, 18, 19] false (.ord 46 [(0, 254), (0, 253), (2, 249), (5, 242), (8, 231), (8, 215), (63, 175), (127, 95)] (.o 0 (.o 1 (.o 2 (.o 3 (.o 4 (.o 5 (.o 6 (.o 7 .done)))))))))) .nil))))
theorem Cf46_palaverref09_Sub_ok : Cf46_palaverref09_Sub.Ok := mkC_ok mixed tysOk zerosOk eqsOk ⟨Sf51_palaverref09_add, Sf55_palaverref09_both, Sf80_palaverref09_neg, trivial⟩ trivial
theorem Ef46_palaverref09_Sub (x : ((Bool × ByteArray) × (Bool × ByteArray))) : evF Cf46_palaverref09_Sub Try.f46 20 (.pair (.agg (.pair .bool .str)) (.agg (.pair .bool .str))) (.tup (.pair (.agg (.pair .bool .str)) (.int .i64))) Af46_palaverref09_Sub x = f46_palaverref09_Sub x.1 x.2 := by kernel_rfl
theorem Sf46_palaverref09_Sub : SoundF Try.prog 46 ⟨(.pair (.agg (.pair .bool .str)) (.agg (.pair .bool .str))), (.tup (.pair (.agg (.pair .bool .str)) (.int .i64))), fun x => f46_palaverref09_Sub x.1 x.2⟩ :=
  soundF_of Cf46_palaverref09_Sub_ok Try.func46 (by kernel_rfl) (by kernel_rfl) Ef46_palaverref09_Sub
noncomputable def Cf47_palaverref09_Mul : Ctx := mkC Try.prog tys zeros eqs [(55, ⟨(.pair (.agg (.pair .bool .str)) (.agg (.pair .bool .str))), (.int .i64), fun x => f55_palaverref09_both x.1 x.2⟩), (57, ⟨(.pair .sl .bool), (.tup (.pair (.agg (.pair .bool .str)) (.int .i64))), fun x => f57_palaverref09_made x.1 x.2⟩), (73, ⟨(.pair .sl .sl), .sl, fun x => f73_palaverref09_times x.1 x.2⟩)] []
/-- palaverpalaverref09.Mul -/
noncomputable def f47_palaverref09_Mul (x0 : (Bool × ByteArray)) (x1 : (Bool × ByteArray)) : M ((Bool × ByteArray) × Int) :=
  bnd (newC 23 [.bool x0.1, .string x0.2]) fun (p1 : Addr) =>
  bnd (newC 23 [.bool x1.1, .string x1.2]) fun (p2 : Addr) =>
  bnd (newC 23 [.bool false, .string (ByteArray.mk #[])]) fun (p3 : Addr) =>
  bnd (ld (.agg (.pair .bool .str)) p1) fun (v4 : (Bool × ByteArray)) =>
  bnd (ld (.agg (.pair .bool .str)) p2) fun (v5 : (Bool × ByteArray)) =>
  bnd (f55_palaverref09_both v4 v5) fun (r6 : Int) =>
  cnd (r6 != (0 : Int)) (
  bnd (wrs p3 0 [.bool false, .string (ByteArray.mk #[])]) fun _ =>
  bnd (ld (.agg (.pair .bool .str)) p3) fun (v7 : (Bool × ByteArray)) =>
  ret (v7, r6)) (
  bnd (
  bnd (ordM 47 4 (regionIn 4 Try.f47)) fun (o9 : List Nat) =>
  bnd (ld .str (Addr.add p1 1)) fun (v10 : ByteArray) =>
  bnd (ld .str (Addr.add p2 1)) fun (v11 : ByteArray) =>
  bnd (ld .bool (Addr.add p1 0)) fun (v12 : Bool) =>
  bnd (ld .bool (Addr.add p2 0)) fun (v13 : Bool) =>
  cnd (bef o9 2 5) (
  bnd (runV Try.prog .sl (convert 9 61 (.string v10))) fun (v14 : Sl) =>
  bnd (
  bnd (chk .bool (Addr.add p2 0) v13) fun _ =>
  bnd (chk .bool (Addr.add p1 0) v12) fun _ =>
  bnd (chk .str (Addr.add p2 1) v11) fun _ =>
  ret ()) fun _ =>
  bnd (runV Try.prog .sl (convert 9 61 (.string v11))) fun (v15 : Sl) =>
  bnd (
  bnd (chk .bool (Addr.add p2 0) v13) fun _ =>
  bnd (chk .bool (Addr.add p1 0) v12) fun _ =>
  ret ()) fun _ =>
  bnd (f73_palaverref09_times v14 v15) fun (r16 : Sl) =>
  bnd (
  bnd (chk .bool (Addr.add p2 0) v13) fun _ =>
  bnd (chk .bool (Addr.add p1 0) v12) fun _ =>
  ret ()) fun _ =>
  bnd (f57_palaverref09_made r16 (!(v12 == v13))) fun (r17 : ((Bool × ByteArray) × Int)) =>
  bnd (
  bnd (chk .bool (Addr.add p2 0) v13) fun _ =>
  bnd (chk .bool (Addr.add p1 0) v12) fun _ =>
  ret ()) fun _ =>
  bnd (wrs p3 0 [.bool r17.1.1, .string r17.1.2]) fun _ =>
  bnd (ret ()) fun _ =>
  ret r17.2) (
  bnd (runV Try.prog .sl (convert 9 61 (.string v11))) fun (v18 : Sl) =>
  bnd (
  bnd (chk .bool (Addr.add p2 0) v13) fun _ =>
  bnd (chk .bool (Addr.add p1 0) v12) fun _ =>
  bnd (chk .str (Addr.add p1 1) v10) fun _ =>
  ret ()) fun _ =>
  bnd (runV Try.prog .sl (convert 9 61 (.string v10))) fun (v19 : Sl) =>
  bnd (
  bnd (chk .bool (Addr.add p2 0) v13) fun _ =>
  bnd (chk .bool (Addr.add p1 0) v12) fun _ =>
  ret ()) fun _ =>
  bnd (f73_palaverref09_times v19 v18) fun (r20 : Sl) =>
  bnd (
  bnd (chk .bool (Addr.add p2 0) v13) fun _ =>
  bnd (chk .bool (Addr.add p1 0) v12) fun _ =>
  ret ()) fun _ =>
  bnd (f57_palaverref09_made r20 (!(v12 == v13))) fun (r21 : ((Bool × ByteArray) × Int)) =>
  bnd (
  bnd (chk .bool (Addr.add p2 0) v13) fun _ =>
  bnd (chk .bool (Addr.add p1 0) v12) fun _ =>
  ret ()) fun _ =>
  bnd (wrs p3 0 [.bool r21.1.1, .string r21.1.2]) fun _ =>
  bnd (ret ()) fun _ =>
  ret r21.2)) fun (s8 : Int) =>
  bnd (ld (.agg (.pair .bool .str)) p3) fun (v22 : (Bool × ByteArray)) =>
  ret (v22, s8))
noncomputable def Af47_palaverref09_Mul : Ann := (.two .nil (.two .nil (.two (.two .nil (.two (.two .nil .nil) .nil)) (.two (.join [(5, (.int .i64))] [14, 15, 16, 17, 18, 19, 20, 21, 22, 23, 24, 25, 26, 27, 28] false (.ord 47 [(0, 131070), (1, 131068), (2, 131065), (0, 131063), (8, 131047), (16, 131023), (36, 130971), (0, 130943), (128, 130687), (0, 130559), (512, 129535), (1280, 127743), (2112, 124863), (4096, 118783), (4096, 110591), (32767, 90111), (65535, 49151)] (.o 0 (.o 1 (.o 3 (.o 4 (.o 7 (.o 8 (.o 9 (.o 10 (.o 11 (.f 2 5 (.o 5 (.o 6 (.o 12 (.o 13 (.o 14 (.o 15 (.o 16 .done))))))) (.o 2 (.o 6 (.o 12 (.o 13 (.o 14 (.o 15 (.o 16 .done))))))))))))))))))) .nil))))
theorem Cf47_palaverref09_Mul_ok : Cf47_palaverref09_Mul.Ok := mkC_ok mixed tysOk zerosOk eqsOk ⟨Sf55_palaverref09_both, Sf57_palaverref09_made, Sf73_palaverref09_times, trivial⟩ trivial
theorem Ef47_palaverref09_Mul (x : ((Bool × ByteArray) × (Bool × ByteArray))) : evF Cf47_palaverref09_Mul Try.f47 29 (.pair (.agg (.pair .bool .str)) (.agg (.pair .bool .str))) (.tup (.pair (.agg (.pair .bool .str)) (.int .i64))) Af47_palaverref09_Mul x = f47_palaverref09_Mul x.1 x.2 := by kernel_rfl
theorem Sf47_palaverref09_Mul : SoundF Try.prog 47 ⟨(.pair (.agg (.pair .bool .str)) (.agg (.pair .bool .str))), (.tup (.pair (.agg (.pair .bool .str)) (.int .i64))), fun x => f47_palaverref09_Mul x.1 x.2⟩ :=
  soundF_of Cf47_palaverref09_Mul_ok Try.func47 (by kernel_rfl) (by kernel_rfl) Ef47_palaverref09_Mul
noncomputable def Cf11_palaverlaw09_LargeSums : Ctx := mkC Try.prog tys zeros eqs [(12, ⟨.unit, .bool, fun _ => f12_palaverlaw09_works⟩), (13, ⟨(.pair (.agg (.pair .bool .str)) (.agg (.pair .bool .str))), .bool, fun x => f13_palaverlaw09_far x.1 x.2⟩), (34, ⟨(.agg (.pair .bool .str)), (.int .i64), fun x => f34_largeint_Check x⟩), (35, ⟨(.pair (.agg (.pair .bool .str)) (.agg (.pair .bool .str))), (.tup (.pair (.agg (.pair .bool .str)) (.int .i64))), fun x => f35_largeint_Add x.1 x.2⟩), (36, ⟨(.pair (.agg (.pair .bool .str)) (.agg (.pair .bool .str))), (.tup (.pair (.agg (.pair .bool .str)) (.int .i64))), fun x => f36_largeint_Sub x.1 x.2⟩), (37, ⟨(.int .i64), (.agg (.pair .bool .str)), fun x => f37_largeint_Of x⟩), (38, ⟨(.pair (.agg (.pair .bool .str)) (.agg (.pair .bool .str))), (.tup (.pair (.agg (.pair .bool .str)) (.int .i64))), fun x => f38_largeint_Mul x.1 x.2⟩), (39, ⟨(.pair (.agg (.pair .bool .str)) (.agg (.pair .bool .str))), (.tup (.pair (.int .i64) (.int .i64))), fun x => f39_largeint_Cmp x.1 x.2⟩), (40, ⟨(.int .i64), (.agg (.pair .bool .str)), fun x => f40_palaverref09_Of x⟩), (41, ⟨(.agg (.pair .bool .str)), (.tup (.pair (.int .i64) .bool)), fun x => f41_largeint_Small x⟩), (42, ⟨(.agg (.pair .bool .str)), (.tup (.pair (.int .i64) .bool)), fun x => f42_palaverref09_Small x⟩), (43, ⟨(.agg (.pair .bool .str)), (.int .i64), fun x => f43_palaverref09_Check x⟩), (44, ⟨(.pair (.agg (.pair .bool .str)) (.agg (.pair .bool .str))), (.tup (.pair (.int .i64) (.int .i64))), fun x => f44_palaverref09_Cmp x.1 x.2⟩), (45, ⟨(.pair (.agg (.pair .bool .str)) (.agg (.pair .bool .str))), (.tup (.pair (.agg (.pair .bool .str)) (.int .i64))), fun x => f45_palaverref09_Add x.1 x.2⟩), (46, ⟨(.pair (.agg (.pair .bool .str)) (.agg (.pair .bool .str))), (.tup (.pair (.agg (.pair .bool .str)) (.int .i64))), fun x => f46_palaverref09_Sub x.1 x.2⟩), (47, ⟨(.pair (.agg (.pair .bool .str)) (.agg (.pair .bool .str))), (.tup (.pair (.agg (.pair .bool .str)) (.int .i64))), fun x => f47_palaverref09_Mul x.1 x.2⟩)] []
/-- palaverpalaverlaw09.LargeSums -/
noncomputable def f11_palaverlaw09_LargeSums (x0 : (Bool × ByteArray)) (x1 : (Bool × ByteArray)) (x2 : Int) : M Bool :=
  bnd (newC 23 [.bool x0.1, .string x0.2]) fun (p1 : Addr) =>
  bnd (newC 23 [.bool x1.1, .string x1.2]) fun (p2 : Addr) =>
  bnd f12_palaverlaw09_works fun (r3 : Bool) =>
  bnd (ld (.agg (.pair .bool .str)) p1) fun (v4 : (Bool × ByteArray)) =>
  bnd (ld (.agg (.pair .bool .str)) p2) fun (v5 : (Bool × ByteArray)) =>
  bnd (f13_palaverlaw09_far v4 v5) fun (r6 : Bool) =>
  cnd r6 (
  ret r3) (
  bnd (f37_largeint_Of x2) fun (r7 : (Bool × ByteArray)) =>
  bnd (newC 23 [.bool false, .string (ByteArray.mk #[])]) fun (p8 : Addr) =>
  bnd (wrs p8 0 [.bool r7.1, .string r7.2]) fun _ =>
  bnd (f40_palaverref09_Of x2) fun (r9 : (Bool × ByteArray)) =>
  bnd (newC 23 [.bool false, .string (ByteArray.mk #[])]) fun (p10 : Addr) =>
  bnd (wrs p10 0 [.bool r9.1, .string r9.2]) fun _ =>
  bnd (ld (.agg (.pair .bool .str)) p1) fun (v11 : (Bool × ByteArray)) =>
  bnd (f41_largeint_Small v11) fun (r12 : (Int × Bool)) =>
  bnd (ld (.agg (.pair .bool .str)) p1) fun (v13 : (Bool × ByteArray)) =>
  bnd (f42_palaverref09_Small v13) fun (r14 : (Int × Bool)) =>
  bnd (ld (.agg (.pair .bool .str)) p1) fun (v15 : (Bool × ByteArray)) =>
  bnd (f34_largeint_Check v15) fun (r16 : Int) =>
  bnd (ld (.agg (.pair .bool .str)) p1) fun (v17 : (Bool × ByteArray)) =>
  bnd (f43_palaverref09_Check v17) fun (r18 : Int) =>
  bnd (ld (.agg (.pair .bool .str)) p8) fun (v19 : (Bool × ByteArray)) =>
  bnd (ld (.agg (.pair .bool .str)) p10) fun (v20 : (Bool × ByteArray)) =>
  bnd (ld (.agg (.pair .bool .str)) p1) fun (v21 : (Bool × ByteArray)) =>
  bnd (ld (.agg (.pair .bool .str)) p2) fun (v22 : (Bool × ByteArray)) =>
  bnd (f39_largeint_Cmp v21 v22) fun (r23 : (Int × Int)) =>
  bnd (ld (.agg (.pair .bool .str)) p1) fun (v24 : (Bool × ByteArray)) =>
  bnd (ld (.agg (.pair .bool .str)) p2) fun (v25 : (Bool × ByteArray)) =>
  bnd (f44_palaverref09_Cmp v24 v25) fun (r26 : (Int × Int)) =>
  bnd (ld (.agg (.pair .bool .str)) p1) fun (v27 : (Bool × ByteArray)) =>
  bnd (ld (.agg (.pair .bool .str)) p2) fun (v28 : (Bool × ByteArray)) =>
  bnd (f35_largeint_Add v27 v28) fun (r29 : ((Bool × ByteArray) × Int)) =>
  bnd (wrs p8 0 [.bool r29.1.1, .string r29.1.2]) fun _ =>
  bnd (ld (.agg (.pair .bool .str)) p1) fun (v30 : (Bool × ByteArray)) =>
  bnd (ld (.agg (.pair .bool .str)) p2) fun (v31 : (Bool × ByteArray)) =>
  bnd (f45_palaverref09_Add v30 v31) fun (r32 : ((Bool × ByteArray) × Int)) =>
  bnd (wrs p10 0 [.bool r32.1.1, .string r32.1.2]) fun _ =>
  bnd (ld (.agg (.pair .bool .str)) p8) fun (v33 : (Bool × ByteArray)) =>
  bnd (ld (.agg (.pair .bool .str)) p10) fun (v34 : (Bool × ByteArray)) =>
  bnd (ld (.agg (.pair .bool .str)) p1) fun (v35 : (Bool × ByteArray)) =>
  bnd (ld (.agg (.pair .bool .str)) p2) fun (v36 : (Bool × ByteArray)) =>
  bnd (f36_largeint_Sub v35 v36) fun (r37 : ((Bool × ByteArray) × Int)) =>
  bnd (wrs p8 0 [.bool r37.1.1, .string r37.1.2]) fun _ =>
  bnd (ld (.agg (.pair .bool .str)) p1) fun (v38 : (Bool × ByteArray)) =>
  bnd (ld (.agg (.pair .bool .str)) p2) fun (v39 : (Bool × ByteArray)) =>
  bnd (f46_palaverref09_Sub v38 v39) fun (r40 : ((Bool × ByteArray) × Int)) =>
  bnd (wrs p10 0 [.bool r40.1.1, .string r40.1.2]) fun _ =>
  bnd (ld (.agg (.pair .bool .str)) p8) fun (v41 : (Bool × ByteArray)) =>
  bnd (ld (.agg (.pair .bool .str)) p10) fun (v42 : (Bool × ByteArray)) =>
  bnd (ld (.agg (.pair .bool .str)) p1) fun (v43 : (Bool × ByteArray)) =>
  bnd (ld (.agg (.pair .bool .str)) p2) fun (v44 : (Bool × ByteArray)) =>
  bnd (f38_largeint_Mul v43 v44) fun (r45 : ((Bool × ByteArray) × Int)) =>
  bnd (wrs p8 0 [.bool r45.1.1, .string r45.1.2]) fun _ =>
  bnd (ld (.agg (.pair .bool .str)) p1) fun (v46 : (Bool × ByteArray)) =>
  bnd (ld (.agg (.pair .bool .str)) p2) fun (v47 : (Bool × ByteArray)) =>
  bnd (f47_palaverref09_Mul v46 v47) fun (r48 : ((Bool × ByteArray) × Int)) =>
  bnd (wrs p10 0 [.bool r48.1.1, .string r48.1.2]) fun _ =>
  bnd (
  cnd (cond (cond (cond (cond r3 (cond (cond (cond (cond ((v19.1 == v20.1) && (strEq v19.2 v20.2)) (r12.2 == r14.2) false) (cond (!r12.2) true (r12.1 == r14.1)) false) (cond r12.2 true (r12.1 == (0 : Int))) false) (r16 == r18) false) false) (cond (r23.1 == r26.1) (r23.2 == r26.2) false) false) (cond ((v33.1 == v34.1) && (strEq v33.2 v34.2)) (r29.2 == r32.2) false) false) (cond ((v41.1 == v42.1) && (strEq v41.2 v42.2)) (r37.2 == r40.2) false) false) (
  bnd (ld (.agg (.pair .bool .str)) p8) fun (v49 : (Bool × ByteArray)) =>
  bnd (ld (.agg (.pair .bool .str)) p10) fun (v50 : (Bool × ByteArray)) =>
  ret ((v49.1 == v50.1) && (strEq v49.2 v50.2))) (
  ret false)) fun (b51 : Bool) =>
  ret (cond b51 (r45.2 == r48.2) false))
noncomputable def Af11_palaverlaw09_LargeSums : Ann := (.two .nil (.two .nil (.two .nil (.two (.two .nil (.two (.two .nil .nil) .nil)) (.two .nil (.two .nil (.two .nil (.two .nil (.two .nil (.two .nil (.two .nil (.two .nil (.two .nil (.two .nil (.two .nil (.two .nil (.two .nil (.two .nil (.two .nil (.two .nil (.two .nil (.two .nil (.two .nil .nil)))))))))))))))))))))))
theorem Cf11_palaverlaw09_LargeSums_ok : Cf11_palaverlaw09_LargeSums.Ok := mkC_ok mixed tysOk zerosOk eqsOk ⟨Sf12_palaverlaw09_works, Sf13_palaverlaw09_far, Sf34_largeint_Check, Sf35_largeint_Add, Sf36_largeint_Sub, Sf37_largeint_Of, Sf38_largeint_Mul, Sf39_largeint_Cmp, Sf40_palaverref09_Of, Sf41_largeint_Small, Sf42_palaverref09_Small, Sf43_palaverref09_Check, Sf44_palaverref09_Cmp, Sf45_palaverref09_Add, Sf46_palaverref09_Sub, Sf47_palaverref09_Mul, trivial⟩ trivial
theorem Ef11_palaverlaw09_LargeSums (x : ((Bool × ByteArray) × ((Bool × ByteArray) × Int))) : evF Cf11_palaverlaw09_LargeSums Try.f11 171 (.pair (.agg (.pair .bool .str)) (.pair (.agg (.pair .bool .str)) (.int .i64))) .bool Af11_palaverlaw09_LargeSums x = f11_palaverlaw09_LargeSums x.1 x.2.1 x.2.2 := by kernel_rfl
theorem Sf11_palaverlaw09_LargeSums : SoundF Try.prog 11 ⟨(.pair (.agg (.pair .bool .str)) (.pair (.agg (.pair .bool .str)) (.int .i64))), .bool, fun x => f11_palaverlaw09_LargeSums x.1 x.2.1 x.2.2⟩ :=
  soundF_of Cf11_palaverlaw09_LargeSums_ok Try.func11 (by kernel_rfl) (by kernel_rfl) Ef11_palaverlaw09_LargeSums
end Go.Proofs.Ytoekfjgikicclaa
