/-
  Part of the proof: L01a. It states what the functions do; no further condition.
-/
import Derived.Test.YtoekfjgikicclaaProg
import Derived.Test.YtoekfjgikicclaaShI
import Derived.KernelRfl
set_option linter.unusedVariables false
set_option linter.unusedSimpArgs false
namespace Go.Proofs.Ytoekfjgikicclaa
set_option linter.unusedVariables false
open Go.Sh
set_option maxRecDepth 100000
noncomputable def tys : List (Nat × Ty) := [(2, (.int .i64)),
  (3, (.int .i64)),
  (4, .bool),
  (5, (.int .u8)),
  (9, .str),
  (23, (.agg (.pair .bool .str))),
  (26, (.int .i64)),
  (50, .sl),
  (52, (.agg (.pair .sl .bool))),
  (61, .sl),
  (67, (.int .u32)),
  (75, .val),
  (78, (.int .u64)),
  (101, .val),
  (93, (.agg (.pair .sl (.pair .sl (.pair .sl (.pair .sl (.pair .sl (.pair .sl (.pair .sl .sl)))))))))]
theorem tysOk : AllN (fun T t => tyFitsB Try.prog T t = true) tys :=
  ⟨(by kernel_rfl : tyFitsB Try.prog 2 (.int .i64) = true),
   (by kernel_rfl : tyFitsB Try.prog 3 (.int .i64) = true),
   (by kernel_rfl : tyFitsB Try.prog 4 .bool = true),
   (by kernel_rfl : tyFitsB Try.prog 5 (.int .u8) = true),
   (by kernel_rfl : tyFitsB Try.prog 9 .str = true),
   (by kernel_rfl : tyFitsB Try.prog 23 (.agg (.pair .bool .str)) = true),
   (by kernel_rfl : tyFitsB Try.prog 26 (.int .i64) = true),
   (by kernel_rfl : tyFitsB Try.prog 50 .sl = true),
   (by kernel_rfl : tyFitsB Try.prog 52 (.agg (.pair .sl .bool)) = true),
   (by kernel_rfl : tyFitsB Try.prog 61 .sl = true),
   (by kernel_rfl : tyFitsB Try.prog 67 (.int .u32) = true),
   (by kernel_rfl : tyFitsB Try.prog 75 .val = true),
   (by kernel_rfl : tyFitsB Try.prog 78 (.int .u64) = true),
   (by kernel_rfl : tyFitsB Try.prog 101 .val = true),
   (by kernel_rfl : tyFitsB Try.prog 93 (.agg (.pair .sl (.pair .sl (.pair .sl (.pair .sl (.pair .sl (.pair .sl (.pair .sl .sl)))))))) = true), trivial⟩
noncomputable def zeros : List (Nat × TV) := [(23, ⟨(.agg (.pair .bool .str)), (false, (ByteArray.mk #[]))⟩),
  (52, ⟨(.agg (.pair .sl .bool)), ((Sl.mk none 0 0), false)⟩),
  (93, ⟨(.agg (.pair .sl (.pair .sl (.pair .sl (.pair .sl (.pair .sl (.pair .sl (.pair .sl .sl)))))))), ((Sl.mk none 0 0), (Sl.mk none 0 0), (Sl.mk none 0 0), (Sl.mk none 0 0), (Sl.mk none 0 0), (Sl.mk none 0 0), (Sl.mk none 0 0), (Sl.mk none 0 0))⟩)]
theorem zerosOk : AllN (fun T (z : TV) => ∃ i, Try.prog.info? T = some i ∧ i.zero = some z.v) zeros :=
  ⟨⟨_, (by kernel_rfl : Try.prog.info? 23 = some Try.t23), rfl⟩,
   ⟨_, (by kernel_rfl : Try.prog.info? 52 = some Try.t52), rfl⟩,
   ⟨_, (by kernel_rfl : Try.prog.info? 93 = some Try.t93), rfl⟩, trivial⟩
noncomputable def eqs : List (Nat × Ty) := [(23, (.pair .bool .str))]
theorem eqsOk : AllN (EqOk Try.prog) eqs := ⟨eqOk_of (by kernel_rfl), trivial⟩
theorem mixed : Try.prog.follows .mixedOrders = true := by kernel_rfl
noncomputable def Gf66_largeint_And_1 (x0 : Int) (x1 : Int) : Int :=
  (bAnd .u32 x0 x1)
noncomputable def Cf66_largeint_And_1 : Ctx := mkC Try.prog tys zeros eqs [] []
/-- palaverlargeint.And$1 -/
noncomputable def f66_largeint_And_1 (x0 : Int) (x1 : Int) : M Int :=
  ret (bAnd .u32 x0 x1)
noncomputable def Af66_largeint_And_1 : Ann := (.two .nil (.two .nil .nil))
theorem Cf66_largeint_And_1_ok : Cf66_largeint_And_1.Ok := mkC_ok mixed tysOk zerosOk eqsOk trivial trivial
theorem Ef66_largeint_And_1 (x : (Int × Int)) : evF Cf66_largeint_And_1 Try.f66 8 (.pair (.int .u32) (.int .u32)) (.int .u32) Af66_largeint_And_1 x = f66_largeint_And_1 x.1 x.2 := by kernel_rfl
theorem Sf66_largeint_And_1 : SoundF Try.prog 66 ⟨(.pair (.int .u32) (.int .u32)), (.int .u32), fun x => f66_largeint_And_1 x.1 x.2⟩ :=
  soundF_of Cf66_largeint_And_1_ok Try.func66 (by kernel_rfl) (by kernel_rfl) Ef66_largeint_And_1
theorem Hf66_largeint_And_1 (x0 : Int) (x1 : Int) : f66_largeint_And_1 x0 x1 = ret (Gf66_largeint_And_1 x0 x1) := by
  simp only [f66_largeint_And_1, Gf66_largeint_And_1, bnd_ret, cnd_ret, bnd_cnd]
theorem Pf66_largeint_And_1 : SoundP Try.prog 66 ⟨(.pair (.int .u32) (.int .u32)), (.int .u32), fun x => Gf66_largeint_And_1 x.1 x.2⟩ := soundP_of Sf66_largeint_And_1 fun x => Hf66_largeint_And_1 x.1 x.2
noncomputable def Gf68_largeint_Or_1 (x0 : Int) (x1 : Int) : Int :=
  (bOr .u32 x0 x1)
noncomputable def Cf68_largeint_Or_1 : Ctx := mkC Try.prog tys zeros eqs [] []
/-- palaverlargeint.Or$1 -/
noncomputable def f68_largeint_Or_1 (x0 : Int) (x1 : Int) : M Int :=
  ret (bOr .u32 x0 x1)
noncomputable def Af68_largeint_Or_1 : Ann := (.two .nil (.two .nil .nil))
theorem Cf68_largeint_Or_1_ok : Cf68_largeint_Or_1.Ok := mkC_ok mixed tysOk zerosOk eqsOk trivial trivial
theorem Ef68_largeint_Or_1 (x : (Int × Int)) : evF Cf68_largeint_Or_1 Try.f68 8 (.pair (.int .u32) (.int .u32)) (.int .u32) Af68_largeint_Or_1 x = f68_largeint_Or_1 x.1 x.2 := by kernel_rfl
theorem Sf68_largeint_Or_1 : SoundF Try.prog 68 ⟨(.pair (.int .u32) (.int .u32)), (.int .u32), fun x => f68_largeint_Or_1 x.1 x.2⟩ :=
  soundF_of Cf68_largeint_Or_1_ok Try.func68 (by kernel_rfl) (by kernel_rfl) Ef68_largeint_Or_1
theorem Hf68_largeint_Or_1 (x0 : Int) (x1 : Int) : f68_largeint_Or_1 x0 x1 = ret (Gf68_largeint_Or_1 x0 x1) := by
  simp only [f68_largeint_Or_1, Gf68_largeint_Or_1, bnd_ret, cnd_ret, bnd_cnd]
theorem Pf68_largeint_Or_1 : SoundP Try.prog 68 ⟨(.pair (.int .u32) (.int .u32)), (.int .u32), fun x => Gf68_largeint_Or_1 x.1 x.2⟩ := soundP_of Sf68_largeint_Or_1 fun x => Hf68_largeint_Or_1 x.1 x.2
noncomputable def Gf69_largeint_Xor_1 (x0 : Int) (x1 : Int) : Int :=
  (bXor .u32 x0 x1)
noncomputable def Cf69_largeint_Xor_1 : Ctx := mkC Try.prog tys zeros eqs [] []
/-- palaverlargeint.Xor$1 -/
noncomputable def f69_largeint_Xor_1 (x0 : Int) (x1 : Int) : M Int :=
  ret (bXor .u32 x0 x1)
noncomputable def Af69_largeint_Xor_1 : Ann := (.two .nil (.two .nil .nil))
theorem Cf69_largeint_Xor_1_ok : Cf69_largeint_Xor_1.Ok := mkC_ok mixed tysOk zerosOk eqsOk trivial trivial
theorem Ef69_largeint_Xor_1 (x : (Int × Int)) : evF Cf69_largeint_Xor_1 Try.f69 8 (.pair (.int .u32) (.int .u32)) (.int .u32) Af69_largeint_Xor_1 x = f69_largeint_Xor_1 x.1 x.2 := by kernel_rfl
theorem Sf69_largeint_Xor_1 : SoundF Try.prog 69 ⟨(.pair (.int .u32) (.int .u32)), (.int .u32), fun x => f69_largeint_Xor_1 x.1 x.2⟩ :=
  soundF_of Cf69_largeint_Xor_1_ok Try.func69 (by kernel_rfl) (by kernel_rfl) Ef69_largeint_Xor_1
theorem Hf69_largeint_Xor_1 (x0 : Int) (x1 : Int) : f69_largeint_Xor_1 x0 x1 = ret (Gf69_largeint_Xor_1 x0 x1) := by
  simp only [f69_largeint_Xor_1, Gf69_largeint_Xor_1, bnd_ret, cnd_ret, bnd_cnd]
theorem Pf69_largeint_Xor_1 : SoundP Try.prog 69 ⟨(.pair (.int .u32) (.int .u32)), (.int .u32), fun x => Gf69_largeint_Xor_1 x.1 x.2⟩ := soundP_of Sf69_largeint_Xor_1 fun x => Hf69_largeint_Xor_1 x.1 x.2
noncomputable def Cf84_largeint_nat_trim : Ctx := mkC Try.prog tys zeros eqs [] []
/-- (palaverlargeint.nat).trim -/
noncomputable def f84_largeint_nat_trim (x0 : Sl) : M Sl :=
  loopM (fun (s1 : Sl) =>
  bnd (
  cnd (decide ((s1.len : Int) > (0 : Int))) (
  bnd (ix 1 s1 (IntKind.wrap .i64 ((s1.len : Int) - (1 : Int)))) fun (p2 : Addr) =>
  bnd (ld (.int .u32) p2) fun (v3 : Int) =>
  ret (v3 == (0 : Int))) (
  ret false)) fun (b4 : Bool) =>
  cnd b4 (
  bnd (slc 1 s1 none (some (IntKind.wrap .i64 ((s1.len : Int) - (1 : Int)))) none) fun (v5 : Sl) =>
  ret (Sum.inl v5)) (
  ret (Sum.inr s1))) x0
noncomputable def Af84_largeint_nat_trim : Ann := (.two .nil (.two (.one (.loop [(0, .sl)] [3, 4, 5, 6, 7, 8, 9, 10, 11, 12, 13, 14, 15, 16, 17, 18, 19] (.two (.two .nil (.two .nil .nil)) (.one .nil)))) (.two .nil .nil)))
theorem Cf84_largeint_nat_trim_ok : Cf84_largeint_nat_trim.Ok := mkC_ok mixed tysOk zerosOk eqsOk trivial trivial
theorem Ef84_largeint_nat_trim (x : Sl) : evF Cf84_largeint_nat_trim Try.f84 21 .sl .sl Af84_largeint_nat_trim x = f84_largeint_nat_trim x := by kernel_rfl
theorem Sf84_largeint_nat_trim : SoundF Try.prog 84 ⟨.sl, .sl, fun x => f84_largeint_nat_trim x⟩ :=
  soundF_of Cf84_largeint_nat_trim_ok Try.func84 (by kernel_rfl) (by kernel_rfl) Ef84_largeint_nat_trim
noncomputable def Cf54_largeint_large : Ctx := mkC Try.prog tys zeros eqs [(84, ⟨.sl, .sl, fun x => f84_largeint_nat_trim x⟩)] []
/-- palaverlargeint.large -/
noncomputable def f54_largeint_large (x0 : Sl) (x1 : Bool) : M (Bool × ByteArray) :=
  bnd (newC 23 [.bool false, .string (ByteArray.mk #[])]) fun (p1 : Addr) =>
  bnd (f84_largeint_nat_trim x0) fun (r2 : Sl) =>
  bnd (runV Try.prog .sl (Instr.makeSlice 61 (.int .i64 (0 : Int)) (.int .i64 (IntKind.wrap .i64 ((4 : Int) * (r2.len : Int)))))) fun (v3 : Sl) =>
  loopM (fun (s4 : (Sl × Int)) =>
  cnd (decide (s4.2 < (r2.len : Int))) (
  bnd (ix 1 r2 s4.2) fun (p5 : Addr) =>
  bnd (ld (.int .u32) p5) fun (v6 : Int) =>
  bnd (runV Try.prog .sl (Instr.buildSlice 61 4 #[(0, .int .u8 (IntKind.wrap .u8 v6)), (1, .int .u8 (IntKind.wrap .u8 (shrI .u32 v6 8))), (2, .int .u8 (IntKind.wrap .u8 (shrI .u32 v6 16))), (3, .int .u8 (IntKind.wrap .u8 (shrI .u32 v6 24)))])) fun (v7 : Sl) =>
  bnd (runV Try.prog .sl (Builtin.append_ #[61, 61] 61 #[.slice s4.1.a s4.1.len s4.1.cap, .slice v7.a v7.len v7.cap])) fun (v8 : Sl) =>
  ret (Sum.inl (v8, (IntKind.wrap .i64 (s4.2 + (1 : Int)))))) (
  bnd (
  loopM (fun (s9 : Sl) =>
  bnd (
  cnd (decide ((s9.len : Int) > (0 : Int))) (
  bnd (ix 1 s9 (IntKind.wrap .i64 ((s9.len : Int) - (1 : Int)))) fun (p10 : Addr) =>
  bnd (ld (.int .u8) p10) fun (v11 : Int) =>
  ret (v11 == (0 : Int))) (
  ret false)) fun (b12 : Bool) =>
  cnd b12 (
  bnd (slc 1 s9 none (some (IntKind.wrap .i64 ((s9.len : Int) - (1 : Int)))) none) fun (v13 : Sl) =>
  ret (Sum.inl v13)) (
  bnd (
  bnd (runV Try.prog .str (convert 61 9 (.slice s9.a s9.len s9.cap))) fun (v14 : ByteArray) =>
  bnd (wrs p1 0 [.bool (cond x1 (decide ((s9.len : Int) > (0 : Int))) false), .string v14]) fun _ =>
  bnd (ld (.agg (.pair .bool .str)) p1) fun (v15 : (Bool × ByteArray)) =>
  ret v15) fun r16 =>
  ret (Sum.inr r16))) s4.1) fun r17 =>
  ret (Sum.inr r17))) (v3, (0 : Int))
noncomputable def Af54_largeint_large : Ann := (.two .nil (.two .nil (.two .nil (.two (.two .nil (.one (.loop [(5, .sl), (16, (.int .i64))] [7, 17, 18, 19, 20, 21, 22, 23, 24, 25, 26, 27, 28, 29, 30, 31, 32, 33, 34] (.two .nil (.two (.two .nil .nil) (.two (.one (.two .nil .nil)) .nil)))))) (.two (.one (.loop [(5, .sl)] [35, 36, 37, 38, 39, 40, 41, 42, 43, 44, 45, 46, 47, 48, 49, 50, 51] (.two (.two .nil (.two .nil .nil)) (.one .nil)))) (.two .nil .nil))))))
theorem Cf54_largeint_large_ok : Cf54_largeint_large.Ok := mkC_ok mixed tysOk zerosOk eqsOk ⟨Sf84_largeint_nat_trim, trivial⟩ trivial
theorem Ef54_largeint_large (x : (Sl × Bool)) : evF Cf54_largeint_large Try.f54 61 (.pair .sl .bool) (.agg (.pair .bool .str)) Af54_largeint_large x = f54_largeint_large x.1 x.2 := by kernel_rfl
theorem Sf54_largeint_large : SoundF Try.prog 54 ⟨(.pair .sl .bool), (.agg (.pair .bool .str)), fun x => f54_largeint_large x.1 x.2⟩ :=
  soundF_of Cf54_largeint_large_ok Try.func54 (by kernel_rfl) (by kernel_rfl) Ef54_largeint_large
noncomputable def Cf37_largeint_Of : Ctx := mkC Try.prog tys zeros eqs [(54, ⟨(.pair .sl .bool), (.agg (.pair .bool .str)), fun x => f54_largeint_large x.1 x.2⟩)] []
/-- palaverlargeint.Of -/
noncomputable def f37_largeint_Of (x0 : Int) : M (Bool × ByteArray) :=
  bnd (newC 23 [.bool false, .string (ByteArray.mk #[])]) fun (p1 : Addr) =>
  bnd (
  cnd (decide (x0 < (0 : Int))) (
  ret (IntKind.wrap .u64 (0 - (IntKind.wrap .u64 x0)))) (
  ret (IntKind.wrap .u64 x0))) fun (s2 : Int) =>
  bnd (runV Try.prog .sl (Instr.buildSlice 50 2 #[(0, .int .u32 (IntKind.wrap .u32 s2)), (1, .int .u32 (IntKind.wrap .u32 (shrI .u64 s2 32)))])) fun (v3 : Sl) =>
  bnd (f54_largeint_large v3 (decide (x0 < (0 : Int)))) fun (r4 : (Bool × ByteArray)) =>
  bnd (wrs p1 0 [.bool r4.1, .string r4.2]) fun _ =>
  bnd (ld (.agg (.pair .bool .str)) p1) fun (v5 : (Bool × ByteArray)) =>
  ret v5
noncomputable def Af37_largeint_Of : Ann := (.two .nil (.two .nil (.two (.two .nil (.join [(3, (.int .u64))] [8, 9] false (.two .nil .nil))) (.two .nil .nil))))
theorem Cf37_largeint_Of_ok : Cf37_largeint_Of.Ok := mkC_ok mixed tysOk zerosOk eqsOk ⟨Sf54_largeint_large, trivial⟩ trivial
theorem Ef37_largeint_Of (x : Int) : evF Cf37_largeint_Of Try.f37 19 (.int .i64) (.agg (.pair .bool .str)) Af37_largeint_Of x = f37_largeint_Of x := by kernel_rfl
theorem Sf37_largeint_Of : SoundF Try.prog 37 ⟨(.int .i64), (.agg (.pair .bool .str)), fun x => f37_largeint_Of x⟩ :=
  soundF_of Cf37_largeint_Of_ok Try.func37 (by kernel_rfl) (by kernel_rfl) Ef37_largeint_Of
noncomputable def Cf34_largeint_Check : Ctx := mkC Try.prog tys zeros eqs [] []
/-- palaverlargeint.Check -/
noncomputable def f34_largeint_Check (x0 : (Bool × ByteArray)) : M Int :=
  bnd (newC 23 [.bool x0.1, .string x0.2]) fun (p1 : Addr) =>
  bnd (ld .str (Addr.add p1 1)) fun (v2 : ByteArray) =>
  cnd (decide ((ByteArray.size v2 : Int) > (4096 : Int))) (
  ret (92 : Int)) (
  bnd (
  cnd ((ByteArray.size v2 : Int) == (0 : Int)) (
  bnd (ld .bool (Addr.add p1 0)) fun (v4 : Bool) =>
  cnd v4 (
  ret (Sum.inr (1 : Int))) (
  ret (Sum.inl ()))) (
  bnd (ld .str (Addr.add p1 1)) fun (v6 : ByteArray) =>
  bnd (ixS v6 (IntKind.wrap .i64 ((ByteArray.size v2 : Int) - (1 : Int)))) fun (v7 : Int) =>
  cnd (v7 == (0 : Int)) (
  ret (Sum.inr (1 : Int))) (
  ret (Sum.inl ())))) (fun
  | .inl (s3 : Unit) =>
  ret (0 : Int)
  | .inr r10 => ret r10))
noncomputable def Af34_largeint_Check : Ann := (.two .nil (.two .nil (.two (.one (.two .nil (.two (.two .nil .nil) (.two .nil (.join [] [2, 13, 14, 15, 16, 17, 18, 19, 20, 21] true (.two (.two .nil (.two (.two .nil .nil) .nil)) (.two .nil (.two (.two .nil .nil) .nil)))))))) (.two .nil .nil))))
theorem Cf34_largeint_Check_ok : Cf34_largeint_Check.Ok := mkC_ok mixed tysOk zerosOk eqsOk trivial trivial
theorem Ef34_largeint_Check (x : (Bool × ByteArray)) : evF Cf34_largeint_Check Try.f34 22 (.agg (.pair .bool .str)) (.int .i64) Af34_largeint_Check x = f34_largeint_Check x := by kernel_rfl
theorem Sf34_largeint_Check : SoundF Try.prog 34 ⟨(.agg (.pair .bool .str)), (.int .i64), fun x => f34_largeint_Check x⟩ :=
  soundF_of Cf34_largeint_Check_ok Try.func34 (by kernel_rfl) (by kernel_rfl) Ef34_largeint_Check
noncomputable def Cf49_largeint_of : Ctx := mkC Try.prog tys zeros eqs [] []
/-- palaverlargeint.of -/
noncomputable def f49_largeint_of (x0 : (Bool × ByteArray)) : M (Sl × Bool) :=
  bnd (newC 23 [.bool x0.1, .string x0.2]) fun (p1 : Addr) =>
  bnd (newC 52 [.slice none 0 0, .bool false]) fun (p2 : Addr) =>
  bnd (ld .str (Addr.add p1 1)) fun (v3 : ByteArray) =>
  bnd (runV Try.prog .sl (Instr.makeSlice 50 (.int .i64 (IntKind.wrap .i64 (Int.tdiv (IntKind.wrap .i64 ((ByteArray.size v3 : Int) + (3 : Int))) (4 : Int)))) (.int .i64 (IntKind.wrap .i64 (Int.tdiv (IntKind.wrap .i64 ((ByteArray.size v3 : Int) + (3 : Int))) (4 : Int)))))) fun (v4 : Sl) =>
  bnd (ld .str (Addr.add p1 1)) fun (v5 : ByteArray) =>
  loopM (fun (s6 : Int) =>
  cnd (decide (s6 < (ByteArray.size v5 : Int))) (
  bnd (
  bnd (ordM 49 5 (regionIn 5 Try.f49)) fun (o8 : List Nat) =>
  bnd (ix 1 v4 (IntKind.wrap .i64 (Int.tdiv s6 (4 : Int)))) fun (p9 : Addr) =>
  bnd (ld (.int .u32) p9) fun (v10 : Int) =>
  bnd (ld .str (Addr.add p1 1)) fun (v11 : ByteArray) =>
  bnd (ixS v11 s6) fun (v12 : Int) =>
  bnd (cnt (IntKind.wrap .i64 ((8 : Int) * (Int.tmod s6 (4 : Int))))) fun (c13 : Nat) =>
  bnd (ix 1 v4 (IntKind.wrap .i64 (Int.tdiv s6 (4 : Int)))) fun (p14 : Addr) =>
  bnd (wrs p14 0 [.int .u32 (bOr .u32 v10 (shlI .u32 (IntKind.wrap .u32 v12) c13))]) fun _ =>
  bnd (ret ()) fun _ =>
  ret ()) fun (s7 : Unit) =>
  ret (Sum.inl (IntKind.wrap .i64 (s6 + (1 : Int))))) (
  bnd (
  bnd (ld .bool (Addr.add p1 0)) fun (v15 : Bool) =>
  bnd (wrs p2 0 [.slice v4.a v4.len v4.cap, .bool v15]) fun _ =>
  bnd (ld (.agg (.pair .sl .bool)) p2) fun (v16 : (Sl × Bool)) =>
  ret v16) fun r17 =>
  ret (Sum.inr r17))) (0 : Int)
noncomputable def Af49_largeint_of : Ann := (.two .nil (.two .nil (.two (.two .nil (.one (.loop [(14, (.int .i64))] [4, 15, 16, 17, 18, 19, 20, 21, 22, 23, 24, 25, 26, 27, 28, 29, 30, 31, 32, 33] (.two .nil (.two (.two .nil .nil) (.two (.one (.two .nil (.join [] [17, 18, 19, 20, 21, 22, 23, 24, 25, 26, 27, 28, 29, 30, 31, 32] false (.ord 49 [(0, 131070), (0, 131069), (2, 131065), (5, 131058), (8, 131047), (0, 131039), (32, 130975), (0, 130943), (192, 130623), (256, 130303), (0, 130047), (1024, 127999), (2048, 124927), (4608, 118271), (8208, 106479), (32767, 98298), (65535, 16383)] (.o 0 (.o 1 (.o 2 (.o 3 (.o 4 (.o 5 (.o 6 (.o 7 (.o 8 (.o 9 (.o 10 (.o 11 (.o 12 (.o 13 (.o 14 (.o 15 (.o 16 .done))))))))))))))))))))) .nil)))))) (.two .nil .nil))))
theorem Cf49_largeint_of_ok : Cf49_largeint_of.Ok := mkC_ok mixed tysOk zerosOk eqsOk trivial trivial
theorem Ef49_largeint_of (x : (Bool × ByteArray)) : evF Cf49_largeint_of Try.f49 38 (.agg (.pair .bool .str)) (.agg (.pair .sl .bool)) Af49_largeint_of x = f49_largeint_of x := by kernel_rfl
theorem Sf49_largeint_of : SoundF Try.prog 49 ⟨(.agg (.pair .bool .str)), (.agg (.pair .sl .bool)), fun x => f49_largeint_of x⟩ :=
  soundF_of Cf49_largeint_of_ok Try.func49 (by kernel_rfl) (by kernel_rfl) Ef49_largeint_of
noncomputable def Cf52_largeint_two : Ctx := mkC Try.prog tys zeros eqs [(34, ⟨(.agg (.pair .bool .str)), (.int .i64), fun x => f34_largeint_Check x⟩), (49, ⟨(.agg (.pair .bool .str)), (.agg (.pair .sl .bool)), fun x => f49_largeint_of x⟩)] []
/-- palaverlargeint.two -/
noncomputable def f52_largeint_two (x0 : (Bool × ByteArray)) (x1 : (Bool × ByteArray)) : M ((Sl × Bool) × ((Sl × Bool) × Int)) :=
  bnd (newC 23 [.bool x0.1, .string x0.2]) fun (p1 : Addr) =>
  bnd (newC 23 [.bool x1.1, .string x1.2]) fun (p2 : Addr) =>
  bnd (newC 52 [.slice none 0 0, .bool false]) fun (p3 : Addr) =>
  bnd (newC 52 [.slice none 0 0, .bool false]) fun (p4 : Addr) =>
  bnd (ld (.agg (.pair .bool .str)) p1) fun (v5 : (Bool × ByteArray)) =>
  bnd (f34_largeint_Check v5) fun (r6 : Int) =>
  bnd (
  cnd (r6 == (0 : Int)) (
  bnd (ld (.agg (.pair .bool .str)) p2) fun (v8 : (Bool × ByteArray)) =>
  bnd (f34_largeint_Check v8) fun (r9 : Int) =>
  ret r9) (
  ret r6)) fun (s7 : Int) =>
  cnd (s7 != (0 : Int)) (
  bnd (
  bnd (ordM 52 5 (regionIn 5 Try.f52)) fun (o11 : List Nat) =>
  bnd (ld (.agg (.pair .sl .bool)) p3) fun (v12 : (Sl × Bool)) =>
  bnd (ld (.agg (.pair .sl .bool)) p4) fun (v13 : (Sl × Bool)) =>
  bnd (wrs p3 0 [.slice v12.1.a v12.1.len v12.1.cap, .bool v12.2]) fun _ =>
  bnd (
  bnd (chk (.agg (.pair .sl .bool)) p4 v13) fun _ =>
  ret ()) fun _ =>
  bnd (wrs p4 0 [.slice v13.1.a v13.1.len v13.1.cap, .bool v13.2]) fun _ =>
  bnd (ret ()) fun _ =>
  ret s7) fun (s10 : Int) =>
  bnd (ld (.agg (.pair .sl .bool)) p3) fun (v14 : (Sl × Bool)) =>
  bnd (ld (.agg (.pair .sl .bool)) p4) fun (v15 : (Sl × Bool)) =>
  ret (v14, v15, s10)) (
  bnd (
  bnd (ordM 52 6 (regionIn 6 Try.f52)) fun (o17 : List Nat) =>
  bnd (ld (.agg (.pair .bool .str)) p1) fun (v18 : (Bool × ByteArray)) =>
  bnd (ld (.agg (.pair .bool .str)) p2) fun (v19 : (Bool × ByteArray)) =>
  bnd (f49_largeint_of v18) fun (r20 : (Sl × Bool)) =>
  bnd (
  bnd (chk (.agg (.pair .bool .str)) p2 v19) fun _ =>
  ret ()) fun _ =>
  bnd (f49_largeint_of v19) fun (r21 : (Sl × Bool)) =>
  bnd (ret ()) fun _ =>
  bnd (wrs p3 0 [.slice r20.1.a r20.1.len r20.1.cap, .bool r20.2]) fun _ =>
  bnd (ret ()) fun _ =>
  bnd (wrs p4 0 [.slice r21.1.a r21.1.len r21.1.cap, .bool r21.2]) fun _ =>
  bnd (ret ()) fun _ =>
  ret (0 : Int)) fun (s16 : Int) =>
  bnd (ld (.agg (.pair .sl .bool)) p3) fun (v22 : (Sl × Bool)) =>
  bnd (ld (.agg (.pair .sl .bool)) p4) fun (v23 : (Sl × Bool)) =>
  ret (v22, v23, s16))
noncomputable def Af52_largeint_two : Ann := (.two .nil (.two (.two .nil (.two .nil (.join [(6, (.int .i64))] [11, 12] false (.two .nil .nil)))) (.two (.two .nil (.two (.two (.join [(6, (.int .i64))] [15, 16, 17] false (.ord 52 [(0, 62), (0, 61), (0, 59), (1, 54), (11, 45), (31, 27)] (.o 0 (.o 1 (.o 2 (.o 3 (.o 4 (.o 5 .done)))))))) .nil) .nil)) (.two (.join [(6, (.int .i64))] [18, 19, 20, 21] false (.ord 52 [(0, 126), (1, 124), (0, 123), (6, 115), (11, 109), (31, 87), (63, 63)] (.o 0 (.o 2 (.o 1 (.o 3 (.o 4 (.o 5 (.o 6 .done))))))))) .nil))))
theorem Cf52_largeint_two_ok : Cf52_largeint_two.Ok := mkC_ok mixed tysOk zerosOk eqsOk ⟨Sf34_largeint_Check, Sf49_largeint_of, trivial⟩ trivial
theorem Ef52_largeint_two (x : ((Bool × ByteArray) × (Bool × ByteArray))) : evF Cf52_largeint_two Try.f52 22 (.pair (.agg (.pair .bool .str)) (.agg (.pair .bool .str))) (.tup (.pair (.agg (.pair .sl .bool)) (.pair (.agg (.pair .sl .bool)) (.int .i64)))) Af52_largeint_two x = f52_largeint_two x.1 x.2 := by kernel_rfl
theorem Sf52_largeint_two : SoundF Try.prog 52 ⟨(.pair (.agg (.pair .bool .str)) (.agg (.pair .bool .str))), (.tup (.pair (.agg (.pair .sl .bool)) (.pair (.agg (.pair .sl .bool)) (.int .i64)))), fun x => f52_largeint_two x.1 x.2⟩ :=
  soundF_of Cf52_largeint_two_ok Try.func52 (by kernel_rfl) (by kernel_rfl) Ef52_largeint_two
noncomputable def Cf81_largeint_nat_cmp : Ctx := mkC Try.prog tys zeros eqs [(84, ⟨.sl, .sl, fun x => f84_largeint_nat_trim x⟩)] []
/-- (palaverlargeint.nat).cmp -/
noncomputable def f81_largeint_nat_cmp (x0 : Sl) (x1 : Sl) : M Int :=
  bnd (f84_largeint_nat_trim x0) fun (r1 : Sl) =>
  bnd (f84_largeint_nat_trim x1) fun (r2 : Sl) =>
  cnd ((r1.len : Int) != (r2.len : Int)) (
  cnd (decide ((r1.len : Int) < (r2.len : Int))) (
  ret (-1 : Int)) (
  ret (1 : Int))) (
  loopM (fun (s3 : Int) =>
  cnd (decide (s3 ≥ (0 : Int))) (
  bnd drawM fun _ =>
  bnd (ix 1 r1 s3) fun (p4 : Addr) =>
  bnd (ld (.int .u32) p4) fun (v5 : Int) =>
  bnd (ix 1 r2 s3) fun (p6 : Addr) =>
  bnd (ld (.int .u32) p6) fun (v7 : Int) =>
  cnd (decide (v5 < v7)) (
  ret (Sum.inr (-1 : Int))) (
  bnd drawM fun _ =>
  bnd (ix 1 r1 s3) fun (p8 : Addr) =>
  bnd (ld (.int .u32) p8) fun (v9 : Int) =>
  bnd (ix 1 r2 s3) fun (p10 : Addr) =>
  bnd (ld (.int .u32) p10) fun (v11 : Int) =>
  cnd (decide (v9 > v11)) (
  ret (Sum.inr (1 : Int))) (
  ret (Sum.inl (IntKind.wrap .i64 (s3 - (1 : Int))))))) (
  ret (Sum.inr (0 : Int)))) (IntKind.wrap .i64 ((r1.len : Int) - (1 : Int))))
noncomputable def Af81_largeint_nat_cmp : Ann := (.two .nil (.two .nil (.two (.two .nil (.two (.two (.two .nil (.two (.two .nil .nil) .nil)) (.two .nil .nil)) .nil)) (.two (.two .nil (.one (.loop [(5, (.int .i64))] [4, 23, 24, 25, 26, 27, 28, 29, 30, 31, 32, 33, 34, 35, 36, 37, 38, 39, 40, 41, 42, 43, 44, 45, 46] (.two (.two .nil (.two .nil .nil)) (.two (.one (.one (.two .nil (.two (.two .nil .nil) (.two .nil (.two (.two .nil .nil) .nil)))))) .nil))))) (.two .nil .nil)))))
theorem Cf81_largeint_nat_cmp_ok : Cf81_largeint_nat_cmp.Ok := mkC_ok mixed tysOk zerosOk eqsOk ⟨Sf84_largeint_nat_trim, trivial⟩ trivial
theorem Ef81_largeint_nat_cmp (x : (Sl × Sl)) : evF Cf81_largeint_nat_cmp Try.f81 47 (.pair .sl .sl) (.int .i64) Af81_largeint_nat_cmp x = f81_largeint_nat_cmp x.1 x.2 := by kernel_rfl
theorem Sf81_largeint_nat_cmp : SoundF Try.prog 81 ⟨(.pair .sl .sl), (.int .i64), fun x => f81_largeint_nat_cmp x.1 x.2⟩ :=
  soundF_of Cf81_largeint_nat_cmp_ok Try.func81 (by kernel_rfl) (by kernel_rfl) Ef81_largeint_nat_cmp
noncomputable def Cf87_bits_Div32 : Ctx := mkC Try.prog tys zeros eqs [] []
/-- mathbits.Div32 -/
noncomputable def f87_bits_Div32 (x0 : Int) (x1 : Int) (x2 : Int) : M (Int × Int) :=
  bnd (
  cnd (cond (x2 != (0 : Int)) (decide (x2 ≤ x0)) false) (
  bnd (ld .val (Addr.mk 0 0 none)) fun (v2 : Value) =>
  fail) (
  ret ())) fun (s1 : Unit) =>
  bnd drawM fun _ =>
  bnd (nz (IntKind.wrap .u64 x2)) fun _ =>
  bnd (nz (IntKind.wrap .u64 x2)) fun _ =>
  ret ((IntKind.wrap .u32 (IntKind.wrap .u64 (Int.tdiv (bOr .u64 (shlI .u64 (IntKind.wrap .u64 x0) 32) (IntKind.wrap .u64 x1)) (IntKind.wrap .u64 x2)))), (IntKind.wrap .u32 (Int.tmod (bOr .u64 (shlI .u64 (IntKind.wrap .u64 x0) 32) (IntKind.wrap .u64 x1)) (IntKind.wrap .u64 x2))))
noncomputable def Af87_bits_Div32 : Ann := (.two .nil (.two (.two .nil (.join [] [16] false (.two .nil .nil))) (.two .nil (.two .nil .nil))))
theorem Cf87_bits_Div32_ok : Cf87_bits_Div32.Ok := mkC_ok mixed tysOk zerosOk eqsOk trivial trivial
theorem Ef87_bits_Div32 (x : (Int × (Int × Int))) : evF Cf87_bits_Div32 Try.f87 33 (.pair (.int .u32) (.pair (.int .u32) (.int .u32))) (.tup (.pair (.int .u32) (.int .u32))) Af87_bits_Div32 x = f87_bits_Div32 x.1 x.2.1 x.2.2 := by kernel_rfl
theorem Sf87_bits_Div32 : SoundF Try.prog 87 ⟨(.pair (.int .u32) (.pair (.int .u32) (.int .u32))), (.tup (.pair (.int .u32) (.int .u32))), fun x => f87_bits_Div32 x.1 x.2.1 x.2.2⟩ :=
  soundF_of Cf87_bits_Div32_ok Try.func87 (by kernel_rfl) (by kernel_rfl) Ef87_bits_Div32
noncomputable def Cf62_largeint_nat_short : Ctx := mkC Try.prog tys zeros eqs [(84, ⟨.sl, .sl, fun x => f84_largeint_nat_trim x⟩), (87, ⟨(.pair (.int .u32) (.pair (.int .u32) (.int .u32))), (.tup (.pair (.int .u32) (.int .u32))), fun x => f87_bits_Div32 x.1 x.2.1 x.2.2⟩)] []
/-- (palaverlargeint.nat).short -/
noncomputable def f62_largeint_nat_short (x0 : Sl) (x1 : Int) : M (Sl × Int) :=
  bnd (runV Try.prog .sl (Instr.makeSlice 50 (.int .i64 (x0.len : Int)) (.int .i64 (x0.len : Int)))) fun (v1 : Sl) =>
  loopM (fun (s2 : (Int × Int)) =>
  cnd (decide (s2.2 ≥ (0 : Int))) (
  bnd (ix 1 x0 s2.2) fun (p3 : Addr) =>
  bnd (ld (.int .u32) p3) fun (v4 : Int) =>
  bnd (f87_bits_Div32 s2.1 v4 x1) fun (r5 : (Int × Int)) =>
  bnd (ix 1 v1 s2.2) fun (p6 : Addr) =>
  bnd (wrs p6 0 [.int .u32 r5.1]) fun _ =>
  ret (Sum.inl (r5.2, (IntKind.wrap .i64 (s2.2 - (1 : Int)))))) (
  bnd (
  bnd (f84_largeint_nat_trim v1) fun (r7 : Sl) =>
  ret (r7, s2.1)) fun r8 =>
  ret (Sum.inr r8))) ((0 : Int), (IntKind.wrap .i64 ((x0.len : Int) - (1 : Int))))
noncomputable def Af62_largeint_nat_short : Ann := (.two .nil (.two .nil (.two .nil (.two (.two .nil (.one (.loop [(7, (.int .u32)), (8, (.int .i64))] [15, 16, 17, 18, 19, 20, 21, 22, 23, 24, 25, 26, 27, 28, 29, 30, 31] (.two (.two .nil (.two .nil .nil)) (.two (.one .nil) .nil))))) (.two .nil .nil)))))
theorem Cf62_largeint_nat_short_ok : Cf62_largeint_nat_short.Ok := mkC_ok mixed tysOk zerosOk eqsOk ⟨Sf84_largeint_nat_trim, Sf87_bits_Div32, trivial⟩ trivial
theorem Ef62_largeint_nat_short (x : (Sl × Int)) : evF Cf62_largeint_nat_short Try.f62 35 (.pair .sl (.int .u32)) (.tup (.pair .sl (.int .u32))) Af62_largeint_nat_short x = f62_largeint_nat_short x.1 x.2 := by kernel_rfl
theorem Sf62_largeint_nat_short : SoundF Try.prog 62 ⟨(.pair .sl (.int .u32)), (.tup (.pair .sl (.int .u32))), fun x => f62_largeint_nat_short x.1 x.2⟩ :=
  soundF_of Cf62_largeint_nat_short_ok Try.func62 (by kernel_rfl) (by kernel_rfl) Ef62_largeint_nat_short
noncomputable def Cf93_bits_Len32 : Ctx := mkC Try.prog tys zeros eqs [] []
/-- mathbits.Len32 -/
noncomputable def f93_bits_Len32 (x0 : Int) : M Int :=
  bnd (
  cnd (decide (x0 ≥ (65536 : Int))) (
  ret ((shrI .u32 x0 16), (16 : Int))) (
  ret (x0, (0 : Int)))) fun (s1 : (Int × Int)) =>
  bnd (
  cnd (decide (s1.1 ≥ (256 : Int))) (
  ret ((shrI .u32 s1.1 8), (IntKind.wrap .i64 (s1.2 + (8 : Int))))) (
  ret (s1.1, s1.2))) fun (s2 : (Int × Int)) =>
  bnd (ixS (ByteArray.mk #[0, 1, 2, 2, 3, 3, 3, 3, 4, 4, 4, 4, 4, 4, 4, 4, 5, 5, 5, 5, 5, 5, 5, 5, 5, 5, 5, 5, 5, 5, 5, 5, 6, 6, 6, 6, 6, 6, 6, 6, 6, 6, 6, 6, 6, 6, 6, 6, 6, 6, 6, 6, 6, 6, 6, 6, 6, 6, 6, 6, 6, 6, 6, 6, 7, 7, 7, 7, 7, 7, 7, 7, 7, 7, 7, 7, 7, 7, 7, 7, 7, 7, 7, 7, 7, 7, 7, 7, 7, 7, 7, 7, 7, 7, 7, 7, 7, 7, 7, 7, 7, 7, 7, 7, 7, 7, 7, 7, 7, 7, 7, 7, 7, 7, 7, 7, 7, 7, 7, 7, 7, 7, 7, 7, 7, 7, 7, 7, 8, 8, 8, 8, 8, 8, 8, 8, 8, 8, 8, 8, 8, 8, 8, 8, 8, 8, 8, 8, 8, 8, 8, 8, 8, 8, 8, 8, 8, 8, 8, 8, 8, 8, 8, 8, 8, 8, 8, 8, 8, 8, 8, 8, 8, 8, 8, 8, 8, 8, 8, 8, 8, 8, 8, 8, 8, 8, 8, 8, 8, 8, 8, 8, 8, 8, 8, 8, 8, 8, 8, 8, 8, 8, 8, 8, 8, 8, 8, 8, 8, 8, 8, 8, 8, 8, 8, 8, 8, 8, 8, 8, 8, 8, 8, 8, 8, 8, 8, 8, 8, 8, 8, 8, 8, 8, 8, 8, 8, 8, 8, 8, 8, 8, 8, 8, 8, 8, 8, 8, 8, 8, 8, 8, 8, 8, 8, 8]) (IntKind.wrap .u8 s2.1)) fun (v3 : Int) =>
  ret (IntKind.wrap .i64 (s2.2 + (IntKind.wrap .i64 v3)))
noncomputable def Af93_bits_Len32 : Ann := (.two .nil (.two (.two .nil (.join [(0, (.int .u32)), (2, (.int .i64))] [5, 6] false (.two (.two .nil .nil) .nil))) (.two (.two .nil (.join [(0, (.int .u32)), (2, (.int .i64))] [9, 10, 11, 12] false (.two (.two .nil .nil) .nil))) (.two .nil .nil))))
theorem Cf93_bits_Len32_ok : Cf93_bits_Len32.Ok := mkC_ok mixed tysOk zerosOk eqsOk trivial trivial
theorem Ef93_bits_Len32 (x : Int) : evF Cf93_bits_Len32 Try.f93 19 (.int .u32) (.int .i64) Af93_bits_Len32 x = f93_bits_Len32 x := by kernel_rfl
theorem Sf93_bits_Len32 : SoundF Try.prog 93 ⟨(.int .u32), (.int .i64), fun x => f93_bits_Len32 x⟩ :=
  soundF_of Cf93_bits_Len32_ok Try.func93 (by kernel_rfl) (by kernel_rfl) Ef93_bits_Len32
noncomputable def Cf85_bits_LeadingZeros32 : Ctx := mkC Try.prog tys zeros eqs [(93, ⟨(.int .u32), (.int .i64), fun x => f93_bits_Len32 x⟩)] []
/-- mathbits.LeadingZeros32 -/
noncomputable def f85_bits_LeadingZeros32 (x0 : Int) : M Int :=
  bnd (f93_bits_Len32 x0) fun (r1 : Int) =>
  ret (IntKind.wrap .i64 ((32 : Int) - r1))
noncomputable def Af85_bits_LeadingZeros32 : Ann := (.two .nil (.two .nil .nil))
theorem Cf85_bits_LeadingZeros32_ok : Cf85_bits_LeadingZeros32.Ok := mkC_ok mixed tysOk zerosOk eqsOk ⟨Sf93_bits_Len32, trivial⟩ trivial
theorem Ef85_bits_LeadingZeros32 (x : Int) : evF Cf85_bits_LeadingZeros32 Try.f85 6 (.int .u32) (.int .i64) Af85_bits_LeadingZeros32 x = f85_bits_LeadingZeros32 x := by kernel_rfl
theorem Sf85_bits_LeadingZeros32 : SoundF Try.prog 85 ⟨(.int .u32), (.int .i64), fun x => f85_bits_LeadingZeros32 x⟩ :=
  soundF_of Cf85_bits_LeadingZeros32_ok Try.func85 (by kernel_rfl) (by kernel_rfl) Ef85_bits_LeadingZeros32
noncomputable def Cf70_largeint_nat_left : Ctx := mkC Try.prog tys zeros eqs [(84, ⟨.sl, .sl, fun x => f84_largeint_nat_trim x⟩)] []
/-- (palaverlargeint.nat).left -/
noncomputable def f70_largeint_nat_left (x0 : Sl) (x1 : Int) : M Sl :=
  bnd (runV Try.prog .sl (Instr.makeSlice 50 (.int .i64 (IntKind.wrap .i64 ((IntKind.wrap .i64 ((IntKind.wrap .i64 (IntKind.wrap .u64 (Int.tdiv x1 (32 : Int)))) + (x0.len : Int))) + (1 : Int)))) (.int .i64 (IntKind.wrap .i64 ((IntKind.wrap .i64 ((IntKind.wrap .i64 (IntKind.wrap .u64 (Int.tdiv x1 (32 : Int)))) + (x0.len : Int))) + (1 : Int)))))) fun (v1 : Sl) =>
  loopM (fun (s2 : Int) =>
  cnd (decide (s2 < (x0.len : Int))) (
  bnd (ix 1 x0 s2) fun (p3 : Addr) =>
  bnd (ld (.int .u32) p3) fun (v4 : Int) =>
  bnd (cnt (Int.tmod x1 (32 : Int))) fun (c5 : Nat) =>
  bnd (ix 1 v1 (IntKind.wrap .i64 ((IntKind.wrap .i64 (IntKind.wrap .u64 (Int.tdiv x1 (32 : Int)))) + s2))) fun (p6 : Addr) =>
  bnd (ld (.int .u32) p6) fun (v7 : Int) =>
  bnd (ix 1 v1 (IntKind.wrap .i64 ((IntKind.wrap .i64 (IntKind.wrap .u64 (Int.tdiv x1 (32 : Int)))) + s2))) fun (p8 : Addr) =>
  bnd (wrs p8 0 [.int .u32 (bOr .u32 v7 (IntKind.wrap .u32 (shlI .u64 (IntKind.wrap .u64 v4) c5)))]) fun _ =>
  bnd (ix 1 v1 (IntKind.wrap .i64 ((IntKind.wrap .i64 ((IntKind.wrap .i64 (IntKind.wrap .u64 (Int.tdiv x1 (32 : Int)))) + s2)) + (1 : Int)))) fun (p9 : Addr) =>
  bnd (wrs p9 0 [.int .u32 (IntKind.wrap .u32 (shrI .u64 (shlI .u64 (IntKind.wrap .u64 v4) c5) 32))]) fun _ =>
  ret (Sum.inl (IntKind.wrap .i64 (s2 + (1 : Int))))) (
  bnd (
  bnd (f84_largeint_nat_trim v1) fun (r10 : Sl) =>
  ret r10) fun r11 =>
  ret (Sum.inr r11))) (0 : Int)
noncomputable def Af70_largeint_nat_left : Ann := (.two .nil (.two .nil (.two .nil (.two (.two .nil (.one (.loop [(24, (.int .i64))] [8, 9, 10, 25, 26, 27, 28, 29, 30, 31, 32, 33, 34, 35, 36, 37, 38, 39, 40, 41, 42, 43, 44, 45, 46, 47, 48, 49, 50, 51, 52] (.two .nil (.two (.two .nil .nil) (.two (.one (.two .nil (.two .nil (.two .nil .nil)))) .nil)))))) (.two .nil .nil)))))
theorem Cf70_largeint_nat_left_ok : Cf70_largeint_nat_left.Ok := mkC_ok mixed tysOk zerosOk eqsOk ⟨Sf84_largeint_nat_trim, trivial⟩ trivial
theorem Ef70_largeint_nat_left (x : (Sl × Int)) : evF Cf70_largeint_nat_left Try.f70 55 (.pair .sl (.int .u64)) .sl Af70_largeint_nat_left x = f70_largeint_nat_left x.1 x.2 := by kernel_rfl
theorem Sf70_largeint_nat_left : SoundF Try.prog 70 ⟨(.pair .sl (.int .u64)), .sl, fun x => f70_largeint_nat_left x.1 x.2⟩ :=
  soundF_of Cf70_largeint_nat_left_ok Try.func70 (by kernel_rfl) (by kernel_rfl) Ef70_largeint_nat_left
noncomputable def Gf94_bits_Sub32 (x0 : Int) (x1 : Int) (x2 : Int) : (Int × Int) :=
  ((IntKind.wrap .u32 ((IntKind.wrap .u32 (x0 - x1)) - x2)), (shrI .u32 (bOr .u32 (bAnd .u32 (bXor .u32 (4294967295) x0) x1) (bAnd .u32 (bXor .u32 (4294967295) (bXor .u32 x0 x1)) (IntKind.wrap .u32 ((IntKind.wrap .u32 (x0 - x1)) - x2)))) 31))
noncomputable def Cf94_bits_Sub32 : Ctx := mkC Try.prog tys zeros eqs [] []
/-- mathbits.Sub32 -/
noncomputable def f94_bits_Sub32 (x0 : Int) (x1 : Int) (x2 : Int) : M (Int × Int) :=
  ret ((IntKind.wrap .u32 ((IntKind.wrap .u32 (x0 - x1)) - x2)), (shrI .u32 (bOr .u32 (bAnd .u32 (bXor .u32 (4294967295) x0) x1) (bAnd .u32 (bXor .u32 (4294967295) (bXor .u32 x0 x1)) (IntKind.wrap .u32 ((IntKind.wrap .u32 (x0 - x1)) - x2)))) 31))
noncomputable def Af94_bits_Sub32 : Ann := (.two .nil (.two .nil (.two .nil .nil)))
theorem Cf94_bits_Sub32_ok : Cf94_bits_Sub32.Ok := mkC_ok mixed tysOk zerosOk eqsOk trivial trivial
theorem Ef94_bits_Sub32 (x : (Int × (Int × Int))) : evF Cf94_bits_Sub32 Try.f94 25 (.pair (.int .u32) (.pair (.int .u32) (.int .u32))) (.tup (.pair (.int .u32) (.int .u32))) Af94_bits_Sub32 x = f94_bits_Sub32 x.1 x.2.1 x.2.2 := by kernel_rfl
theorem Sf94_bits_Sub32 : SoundF Try.prog 94 ⟨(.pair (.int .u32) (.pair (.int .u32) (.int .u32))), (.tup (.pair (.int .u32) (.int .u32))), fun x => f94_bits_Sub32 x.1 x.2.1 x.2.2⟩ :=
  soundF_of Cf94_bits_Sub32_ok Try.func94 (by kernel_rfl) (by kernel_rfl) Ef94_bits_Sub32
theorem Hf94_bits_Sub32 (x0 : Int) (x1 : Int) (x2 : Int) : f94_bits_Sub32 x0 x1 x2 = ret (Gf94_bits_Sub32 x0 x1 x2) := by
  simp only [f94_bits_Sub32, Gf94_bits_Sub32, bnd_ret, cnd_ret, bnd_cnd]
theorem Pf94_bits_Sub32 : SoundP Try.prog 94 ⟨(.pair (.int .u32) (.pair (.int .u32) (.int .u32))), (.tup (.pair (.int .u32) (.int .u32))), fun x => Gf94_bits_Sub32 x.1 x.2.1 x.2.2⟩ := soundP_of Sf94_bits_Sub32 fun x => Hf94_bits_Sub32 x.1 x.2.1 x.2.2
noncomputable def Gf91_bits_Add32 (x0 : Int) (x1 : Int) (x2 : Int) : (Int × Int) :=
  ((IntKind.wrap .u32 (IntKind.wrap .u64 ((IntKind.wrap .u64 ((IntKind.wrap .u64 x0) + (IntKind.wrap .u64 x1))) + (IntKind.wrap .u64 x2)))), (IntKind.wrap .u32 (shrI .u64 (IntKind.wrap .u64 ((IntKind.wrap .u64 ((IntKind.wrap .u64 x0) + (IntKind.wrap .u64 x1))) + (IntKind.wrap .u64 x2))) 32)))
noncomputable def Cf91_bits_Add32 : Ctx := mkC Try.prog tys zeros eqs [] []
/-- mathbits.Add32 -/
noncomputable def f91_bits_Add32 (x0 : Int) (x1 : Int) (x2 : Int) : M (Int × Int) :=
  ret ((IntKind.wrap .u32 (IntKind.wrap .u64 ((IntKind.wrap .u64 ((IntKind.wrap .u64 x0) + (IntKind.wrap .u64 x1))) + (IntKind.wrap .u64 x2)))), (IntKind.wrap .u32 (shrI .u64 (IntKind.wrap .u64 ((IntKind.wrap .u64 ((IntKind.wrap .u64 x0) + (IntKind.wrap .u64 x1))) + (IntKind.wrap .u64 x2))) 32)))
noncomputable def Af91_bits_Add32 : Ann := (.two .nil (.two .nil (.two .nil (.two .nil .nil))))
theorem Cf91_bits_Add32_ok : Cf91_bits_Add32.Ok := mkC_ok mixed tysOk zerosOk eqsOk trivial trivial
theorem Ef91_bits_Add32 (x : (Int × (Int × Int))) : evF Cf91_bits_Add32 Try.f91 22 (.pair (.int .u32) (.pair (.int .u32) (.int .u32))) (.tup (.pair (.int .u32) (.int .u32))) Af91_bits_Add32 x = f91_bits_Add32 x.1 x.2.1 x.2.2 := by kernel_rfl
theorem Sf91_bits_Add32 : SoundF Try.prog 91 ⟨(.pair (.int .u32) (.pair (.int .u32) (.int .u32))), (.tup (.pair (.int .u32) (.int .u32))), fun x => f91_bits_Add32 x.1 x.2.1 x.2.2⟩ :=
  soundF_of Cf91_bits_Add32_ok Try.func91 (by kernel_rfl) (by kernel_rfl) Ef91_bits_Add32
theorem Hf91_bits_Add32 (x0 : Int) (x1 : Int) (x2 : Int) : f91_bits_Add32 x0 x1 x2 = ret (Gf91_bits_Add32 x0 x1 x2) := by
  simp only [f91_bits_Add32, Gf91_bits_Add32, bnd_ret, cnd_ret, bnd_cnd]
theorem Pf91_bits_Add32 : SoundP Try.prog 91 ⟨(.pair (.int .u32) (.pair (.int .u32) (.int .u32))), (.tup (.pair (.int .u32) (.int .u32))), fun x => Gf91_bits_Add32 x.1 x.2.1 x.2.2⟩ := soundP_of Sf91_bits_Add32 fun x => Hf91_bits_Add32 x.1 x.2.1 x.2.2
noncomputable def Cf86_largeint_nat_take : Ctx := mkC Try.prog tys zeros eqs [] [(91, ⟨(.pair (.int .u32) (.pair (.int .u32) (.int .u32))), (.tup (.pair (.int .u32) (.int .u32))), fun x => Gf91_bits_Add32 x.1 x.2.1 x.2.2⟩), (94, ⟨(.pair (.int .u32) (.pair (.int .u32) (.int .u32))), (.tup (.pair (.int .u32) (.int .u32))), fun x => Gf94_bits_Sub32 x.1 x.2.1 x.2.2⟩)]
/-- (palaverlargeint.nat).take -/
noncomputable def f86_largeint_nat_take (x0 : Sl) (x1 : Sl) (x2 : Int) : M Int :=
  bnd drawM fun _ =>
  bnd (ix 1 x0 (IntKind.wrap .i64 (x2 + (x1.len : Int)))) fun (p1 : Addr) =>
  bnd (ld (.int .u32) p1) fun (v2 : Int) =>
  bnd (ix 1 x0 (IntKind.wrap .i64 ((IntKind.wrap .i64 (x2 + (x1.len : Int))) - (1 : Int)))) fun (p3 : Addr) =>
  bnd (ld (.int .u32) p3) fun (v4 : Int) =>
  bnd drawM fun _ =>
  bnd (ix 1 x1 (IntKind.wrap .i64 ((x1.len : Int) - (1 : Int)))) fun (p5 : Addr) =>
  bnd (ld (.int .u32) p5) fun (v6 : Int) =>
  bnd (nz (IntKind.wrap .u64 v6)) fun _ =>
  bnd (ix 1 x1 (IntKind.wrap .i64 ((x1.len : Int) - (1 : Int)))) fun (p7 : Addr) =>
  bnd (ld (.int .u32) p7) fun (v8 : Int) =>
  bnd (nz (IntKind.wrap .u64 v8)) fun _ =>
  bnd (
  loopM (fun (s10 : (Int × Int)) =>
  bnd drawM fun _ =>
  bnd (
  cnd (decide ((shrI .u64 s10.1 32) > (0 : Int))) (
  ret true) (
  bnd (ix 1 x1 (IntKind.wrap .i64 ((x1.len : Int) - (2 : Int)))) fun (p11 : Addr) =>
  bnd (ld (.int .u32) p11) fun (v12 : Int) =>
  bnd (ix 1 x0 (IntKind.wrap .i64 ((IntKind.wrap .i64 (x2 + (x1.len : Int))) - (2 : Int)))) fun (p13 : Addr) =>
  bnd (ld (.int .u32) p13) fun (v14 : Int) =>
  ret (decide ((IntKind.wrap .u64 (s10.1 * (IntKind.wrap .u64 v12))) > (bOr .u64 (shlI .u64 s10.2 32) (IntKind.wrap .u64 v14)))))) fun (b15 : Bool) =>
  cnd b15 (
  bnd (ix 1 x1 (IntKind.wrap .i64 ((x1.len : Int) - (1 : Int)))) fun (p16 : Addr) =>
  bnd (ld (.int .u32) p16) fun (v17 : Int) =>
  cnd (decide ((shrI .u64 (IntKind.wrap .u64 (s10.2 + (IntKind.wrap .u64 v17))) 32) > (0 : Int))) (
  ret (Sum.inr (IntKind.wrap .u64 (s10.1 - (1 : Int))))) (
  ret (Sum.inl ((IntKind.wrap .u64 (s10.1 - (1 : Int))), (IntKind.wrap .u64 (s10.2 + (IntKind.wrap .u64 v17))))))) (
  ret (Sum.inr s10.1))) ((IntKind.wrap .u64 (Int.tdiv (bOr .u64 (shlI .u64 (IntKind.wrap .u64 v2) 32) (IntKind.wrap .u64 v4)) (IntKind.wrap .u64 v6))), (Int.tmod (bOr .u64 (shlI .u64 (IntKind.wrap .u64 v2) 32) (IntKind.wrap .u64 v4)) (IntKind.wrap .u64 v8)))) fun (s9 : Int) =>
  loopM (fun (s18 : (Int × (Int × Int))) =>
  cnd (decide (s18.2.2 < (x1.len : Int))) (
  bnd (ix 1 x1 s18.2.2) fun (p19 : Addr) =>
  bnd (ld (.int .u32) p19) fun (v20 : Int) =>
  bnd (ix 1 x0 (IntKind.wrap .i64 (x2 + s18.2.2))) fun (p21 : Addr) =>
  bnd (ld (.int .u32) p21) fun (v22 : Int) =>
  bnd (ix 1 x0 (IntKind.wrap .i64 (x2 + s18.2.2))) fun (p23 : Addr) =>
  bnd (wrs p23 0 [.int .u32 ((Gf94_bits_Sub32 v22 (IntKind.wrap .u32 (IntKind.wrap .u64 ((IntKind.wrap .u64 (s9 * (IntKind.wrap .u64 v20))) + s18.1))) s18.2.1).1)]) fun _ =>
  ret (Sum.inl ((shrI .u64 (IntKind.wrap .u64 ((IntKind.wrap .u64 (s9 * (IntKind.wrap .u64 v20))) + s18.1)) 32), (Gf94_bits_Sub32 v22 (IntKind.wrap .u32 (IntKind.wrap .u64 ((IntKind.wrap .u64 (s9 * (IntKind.wrap .u64 v20))) + s18.1))) s18.2.1).2, (IntKind.wrap .i64 (s18.2.2 + (1 : Int)))))) (
  bnd (
  bnd (ix 1 x0 (IntKind.wrap .i64 (x2 + (x1.len : Int)))) fun (p24 : Addr) =>
  bnd (ld (.int .u32) p24) fun (v25 : Int) =>
  bnd (ix 1 x0 (IntKind.wrap .i64 (x2 + (x1.len : Int)))) fun (p26 : Addr) =>
  bnd (wrs p26 0 [.int .u32 ((Gf94_bits_Sub32 v25 (IntKind.wrap .u32 s18.1) s18.2.1).1)]) fun _ =>
  cnd ((Gf94_bits_Sub32 v25 (IntKind.wrap .u32 s18.1) s18.2.1).2 == (0 : Int)) (
  ret (IntKind.wrap .u32 s9)) (
  loopM (fun (s27 : (Int × Int)) =>
  cnd (decide (s27.2 < (x1.len : Int))) (
  bnd (ix 1 x1 s27.2) fun (p28 : Addr) =>
  bnd (ld (.int .u32) p28) fun (v29 : Int) =>
  bnd (ix 1 x0 (IntKind.wrap .i64 (x2 + s27.2))) fun (p30 : Addr) =>
  bnd (ld (.int .u32) p30) fun (v31 : Int) =>
  bnd (ix 1 x0 (IntKind.wrap .i64 (x2 + s27.2))) fun (p32 : Addr) =>
  bnd (wrs p32 0 [.int .u32 ((Gf91_bits_Add32 v31 v29 s27.1).1)]) fun _ =>
  ret (Sum.inl ((Gf91_bits_Add32 v31 v29 s27.1).2, (IntKind.wrap .i64 (s27.2 + (1 : Int)))))) (
  bnd (
  bnd (ix 1 x0 (IntKind.wrap .i64 (x2 + (x1.len : Int)))) fun (p33 : Addr) =>
  bnd (ld (.int .u32) p33) fun (v34 : Int) =>
  bnd (ix 1 x0 (IntKind.wrap .i64 (x2 + (x1.len : Int)))) fun (p35 : Addr) =>
  bnd (wrs p35 0 [.int .u32 (IntKind.wrap .u32 (v34 + s27.1))]) fun _ =>
  ret (IntKind.wrap .u32 (IntKind.wrap .u64 (s9 - (1 : Int))))) fun r36 =>
  ret (Sum.inr r36))) ((0 : Int), (0 : Int)))) fun r37 =>
  ret (Sum.inr r37))) ((0 : Int), (0 : Int), (0 : Int))
noncomputable def Af86_largeint_nat_take : Ann := (.two .nil (.two .nil (.two .nil (.two .nil (.two (.join [(9, (.int .u64))] [10, 54, 55, 56, 57, 58, 59, 60, 61, 62, 63, 64, 65, 66, 67, 68, 69, 70, 71, 72, 73, 74, 75, 76, 77, 78, 79, 80, 81, 82, 83, 84, 85, 86, 87, 88, 89, 90, 91] false (.one (.loop [(9, (.int .u64)), (10, (.int .u64))] [54, 55, 56, 57, 58, 59, 60, 61, 62, 63, 64, 65, 66, 67, 68, 69, 70, 71, 72, 73, 74, 75, 76, 77, 78, 79, 80, 81, 82, 83, 84, 85, 86, 87, 88, 89, 90, 91] (.two (.two .nil (.two .nil .nil)) (.one (.two .nil (.two .nil (.two .nil (.two .nil .nil))))))))) (.two .nil (.two .nil (.two (.two .nil (.one (.loop [(11, (.int .u64)), (12, (.int .u32)), (94, (.int .i64))] [13, 14, 15, 95, 96, 97, 98, 99, 100, 101, 102, 103, 104, 105, 106, 107, 108, 109, 110, 111, 112, 113, 114, 115, 116, 117, 118, 119, 120, 121, 122, 123, 124, 125] (.two .nil (.two (.two .nil .nil) (.two (.one (.two .nil (.two .nil (.two .nil .nil)))) .nil)))))) (.two .nil (.two (.two .nil (.two (.two .nil .nil) .nil)) (.two .nil (.two (.two .nil (.one (.loop [(16, (.int .u32)), (150, (.int .i64))] [17, 18, 151, 152, 153, 154, 155, 156, 157, 158, 159, 160, 161, 162, 163, 164, 165, 166, 167, 168, 169, 170, 171, 172] (.two .nil (.two (.two .nil .nil) (.two (.one (.two .nil .nil)) .nil)))))) (.two .nil (.two .nil .nil))))))))))))))
theorem Cf86_largeint_nat_take_ok : Cf86_largeint_nat_take.Ok := mkC_ok mixed tysOk zerosOk eqsOk trivial ⟨Pf91_bits_Add32, Pf94_bits_Sub32, trivial⟩
theorem Ef86_largeint_nat_take (x : (Sl × (Sl × Int))) : evF Cf86_largeint_nat_take Try.f86 185 (.pair .sl (.pair .sl (.int .i64))) (.int .u32) Af86_largeint_nat_take x = f86_largeint_nat_take x.1 x.2.1 x.2.2 := by kernel_rfl
theorem Sf86_largeint_nat_take : SoundF Try.prog 86 ⟨(.pair .sl (.pair .sl (.int .i64))), (.int .u32), fun x => f86_largeint_nat_take x.1 x.2.1 x.2.2⟩ :=
  soundF_of Cf86_largeint_nat_take_ok Try.func86 (by kernel_rfl) (by kernel_rfl) Ef86_largeint_nat_take
noncomputable def Cf76_largeint_nat_long : Ctx := mkC Try.prog tys zeros eqs [(84, ⟨.sl, .sl, fun x => f84_largeint_nat_trim x⟩), (93, ⟨(.int .u32), (.int .i64), fun x => f93_bits_Len32 x⟩)] []
/-- (palaverlargeint.nat).long -/
noncomputable def f76_largeint_nat_long (x0 : Sl) : M Int :=
  bnd (f84_largeint_nat_trim x0) fun (r1 : Sl) =>
  cnd ((r1.len : Int) == (0 : Int)) (
  ret (0 : Int)) (
  bnd (ix 1 r1 (IntKind.wrap .i64 ((r1.len : Int) - (1 : Int)))) fun (p2 : Addr) =>
  bnd (ld (.int .u32) p2) fun (v3 : Int) =>
  bnd (f93_bits_Len32 v3) fun (r4 : Int) =>
  ret (IntKind.wrap .i64 ((IntKind.wrap .i64 ((32 : Int) * (IntKind.wrap .i64 ((r1.len : Int) - (1 : Int))))) + r4)))
noncomputable def Af76_largeint_nat_long : Ann := (.two .nil (.two .nil (.two (.two .nil (.two (.two .nil .nil) .nil)) (.two .nil .nil))))
theorem Cf76_largeint_nat_long_ok : Cf76_largeint_nat_long.Ok := mkC_ok mixed tysOk zerosOk eqsOk ⟨Sf84_largeint_nat_trim, Sf93_bits_Len32, trivial⟩ trivial
theorem Ef76_largeint_nat_long (x : Sl) : evF Cf76_largeint_nat_long Try.f76 20 .sl (.int .i64) Af76_largeint_nat_long x = f76_largeint_nat_long x := by kernel_rfl
theorem Sf76_largeint_nat_long : SoundF Try.prog 76 ⟨.sl, (.int .i64), fun x => f76_largeint_nat_long x⟩ :=
  soundF_of Cf76_largeint_nat_long_ok Try.func76 (by kernel_rfl) (by kernel_rfl) Ef76_largeint_nat_long
noncomputable def Cf71_largeint_nat_right : Ctx := mkC Try.prog tys zeros eqs [(76, ⟨.sl, (.int .i64), fun x => f76_largeint_nat_long x⟩), (84, ⟨.sl, .sl, fun x => f84_largeint_nat_trim x⟩)] []
/-- (palaverlargeint.nat).right -/
noncomputable def f71_largeint_nat_right (x0 : Sl) (x1 : Int) : M (Sl × Bool) :=
  cnd (decide ((IntKind.wrap .i64 (IntKind.wrap .u64 (Int.tdiv x1 (32 : Int)))) ≥ (x0.len : Int))) (
  ret ((Sl.mk none 0 0), (decide ((x0.len : Int) > (0 : Int))))) (
  bnd (slc 1 x0 none (some (IntKind.wrap .i64 (IntKind.wrap .u64 (Int.tdiv x1 (32 : Int))))) none) fun (v1 : Sl) =>
  bnd (f84_largeint_nat_trim v1) fun (r2 : Sl) =>
  bnd (f76_largeint_nat_long r2) fun (r3 : Int) =>
  bnd (
  cnd (decide (r3 > (0 : Int))) (
  ret true) (
  bnd (ix 1 x0 (IntKind.wrap .i64 (IntKind.wrap .u64 (Int.tdiv x1 (32 : Int))))) fun (p4 : Addr) =>
  bnd (ld (.int .u32) p4) fun (v5 : Int) =>
  bnd (cnt (IntKind.wrap .u64 ((32 : Int) - (Int.tmod x1 (32 : Int))))) fun (c6 : Nat) =>
  ret (cond ((shlI .u32 v5 c6) != (0 : Int)) (decide ((Int.tmod x1 (32 : Int)) > (0 : Int))) false))) fun (b7 : Bool) =>
  bnd (runV Try.prog .sl (Instr.makeSlice 50 (.int .i64 (IntKind.wrap .i64 ((x0.len : Int) - (IntKind.wrap .i64 (IntKind.wrap .u64 (Int.tdiv x1 (32 : Int))))))) (.int .i64 (IntKind.wrap .i64 ((x0.len : Int) - (IntKind.wrap .i64 (IntKind.wrap .u64 (Int.tdiv x1 (32 : Int))))))))) fun (v8 : Sl) =>
  loopM (fun (s9 : Int) =>
  cnd (decide (s9 < (v8.len : Int))) (
  bnd (ix 1 x0 (IntKind.wrap .i64 ((IntKind.wrap .i64 (IntKind.wrap .u64 (Int.tdiv x1 (32 : Int)))) + s9))) fun (p10 : Addr) =>
  bnd (ld (.int .u32) p10) fun (v11 : Int) =>
  bnd (
  cnd (decide ((IntKind.wrap .i64 ((IntKind.wrap .i64 ((IntKind.wrap .i64 (IntKind.wrap .u64 (Int.tdiv x1 (32 : Int)))) + s9)) + (1 : Int))) < (x0.len : Int))) (
  bnd (ix 1 x0 (IntKind.wrap .i64 ((IntKind.wrap .i64 ((IntKind.wrap .i64 (IntKind.wrap .u64 (Int.tdiv x1 (32 : Int)))) + s9)) + (1 : Int)))) fun (p13 : Addr) =>
  bnd (ld (.int .u32) p13) fun (v14 : Int) =>
  ret (bOr .u64 (IntKind.wrap .u64 v11) (shlI .u64 (IntKind.wrap .u64 v14) 32))) (
  ret (IntKind.wrap .u64 v11))) fun (s12 : Int) =>
  bnd (cnt (Int.tmod x1 (32 : Int))) fun (c15 : Nat) =>
  bnd (ix 1 v8 s9) fun (p16 : Addr) =>
  bnd (wrs p16 0 [.int .u32 (IntKind.wrap .u32 (shrI .u64 s12 c15))]) fun _ =>
  ret (Sum.inl (IntKind.wrap .i64 (s9 + (1 : Int))))) (
  bnd (
  bnd (f84_largeint_nat_trim v8) fun (r17 : Sl) =>
  ret (r17, b7)) fun r18 =>
  ret (Sum.inr r18))) (0 : Int))
noncomputable def Af71_largeint_nat_right : Ann := (.two .nil (.two .nil (.two (.two .nil (.two (.two .nil .nil) .nil)) (.two .nil (.two .nil (.two (.two .nil (.one (.loop [(51, (.int .i64))] [10, 11, 52, 53, 54, 55, 56, 57, 58, 59, 60, 61, 62, 63, 64, 65, 66, 67, 68, 69, 70, 71, 72, 73, 74, 75, 76, 77, 78, 79, 80, 81, 82, 83, 84, 85, 86] (.two .nil (.two (.two .nil .nil) (.two (.one (.two .nil (.two .nil (.two (.two .nil (.join [(11, (.int .u64))] [68, 69, 70, 71, 72, 73, 74, 75, 76, 77, 78] false (.two .nil .nil))) .nil)))) .nil)))))) (.two .nil .nil)))))))
theorem Cf71_largeint_nat_right_ok : Cf71_largeint_nat_right.Ok := mkC_ok mixed tysOk zerosOk eqsOk ⟨Sf76_largeint_nat_long, Sf84_largeint_nat_trim, trivial⟩ trivial
theorem Ef71_largeint_nat_right (x : (Sl × Int)) : evF Cf71_largeint_nat_right Try.f71 90 (.pair .sl (.int .u64)) (.tup (.pair .sl .bool)) Af71_largeint_nat_right x = f71_largeint_nat_right x.1 x.2 := by kernel_rfl
theorem Sf71_largeint_nat_right : SoundF Try.prog 71 ⟨(.pair .sl (.int .u64)), (.tup (.pair .sl .bool)), fun x => f71_largeint_nat_right x.1 x.2⟩ :=
  soundF_of Cf71_largeint_nat_right_ok Try.func71 (by kernel_rfl) (by kernel_rfl) Ef71_largeint_nat_right
noncomputable def Cf53_largeint_nat_div : Ctx := mkC Try.prog tys zeros eqs [(62, ⟨(.pair .sl (.int .u32)), (.tup (.pair .sl (.int .u32))), fun x => f62_largeint_nat_short x.1 x.2⟩), (70, ⟨(.pair .sl (.int .u64)), .sl, fun x => f70_largeint_nat_left x.1 x.2⟩), (71, ⟨(.pair .sl (.int .u64)), (.tup (.pair .sl .bool)), fun x => f71_largeint_nat_right x.1 x.2⟩), (81, ⟨(.pair .sl .sl), (.int .i64), fun x => f81_largeint_nat_cmp x.1 x.2⟩), (84, ⟨.sl, .sl, fun x => f84_largeint_nat_trim x⟩), (85, ⟨(.int .u32), (.int .i64), fun x => f85_bits_LeadingZeros32 x⟩), (86, ⟨(.pair .sl (.pair .sl (.int .i64))), (.int .u32), fun x => f86_largeint_nat_take x.1 x.2.1 x.2.2⟩)] []
/-- (palaverlargeint.nat).div -/
noncomputable def f53_largeint_nat_div (x0 : Sl) (x1 : Sl) : M (Sl × Sl) :=
  bnd (f81_largeint_nat_cmp x0 x1) fun (r1 : Int) =>
  cnd (decide (r1 < (0 : Int))) (
  ret ((Sl.mk none 0 0), x0)) (
  cnd ((x1.len : Int) == (1 : Int)) (
  bnd (ix 1 x1 (0 : Int)) fun (p2 : Addr) =>
  bnd (ld (.int .u32) p2) fun (v3 : Int) =>
  bnd (f62_largeint_nat_short x0 v3) fun (r4 : (Sl × Int)) =>
  bnd (runV Try.prog .sl (Instr.buildSlice 50 1 #[(0, .int .u32 r4.2)])) fun (v5 : Sl) =>
  bnd (f84_largeint_nat_trim v5) fun (r6 : Sl) =>
  ret (r4.1, r6)) (
  bnd (ix 1 x1 (IntKind.wrap .i64 ((x1.len : Int) - (1 : Int)))) fun (p7 : Addr) =>
  bnd (ld (.int .u32) p7) fun (v8 : Int) =>
  bnd (f85_bits_LeadingZeros32 v8) fun (r9 : Int) =>
  bnd (f70_largeint_nat_left x1 (IntKind.wrap .u64 r9)) fun (r10 : Sl) =>
  bnd (runV Try.prog .sl (Instr.makeSlice 50 (.int .i64 (IntKind.wrap .i64 ((x0.len : Int) + (1 : Int)))) (.int .i64 (IntKind.wrap .i64 ((x0.len : Int) + (1 : Int)))))) fun (v11 : Sl) =>
  bnd (f70_largeint_nat_left x0 (IntKind.wrap .u64 r9)) fun (r12 : Sl) =>
  bnd (runV Try.prog (.int .i64) (Builtin.copy_ #[50, 50] 3 #[.slice v11.a v11.len v11.cap, .slice r12.a r12.len r12.cap])) fun (v13 : Int) =>
  bnd (runV Try.prog .sl (Instr.makeSlice 50 (.int .i64 (IntKind.wrap .i64 ((v11.len : Int) - (r10.len : Int)))) (.int .i64 (IntKind.wrap .i64 ((v11.len : Int) - (r10.len : Int)))))) fun (v14 : Sl) =>
  loopM (fun (s15 : Int) =>
  cnd (decide (s15 ≥ (0 : Int))) (
  bnd (f86_largeint_nat_take v11 r10 s15) fun (r16 : Int) =>
  bnd (ix 1 v14 s15) fun (p17 : Addr) =>
  bnd (wrs p17 0 [.int .u32 r16]) fun _ =>
  ret (Sum.inl (IntKind.wrap .i64 (s15 - (1 : Int))))) (
  bnd (
  bnd (slc 1 v11 none (some (r10.len : Int)) none) fun (v18 : Sl) =>
  bnd (f84_largeint_nat_trim v18) fun (r19 : Sl) =>
  bnd (f71_largeint_nat_right r19 (IntKind.wrap .u64 r9)) fun (r20 : (Sl × Bool)) =>
  bnd (f84_largeint_nat_trim v14) fun (r21 : Sl) =>
  ret (r21, r20.1)) fun r22 =>
  ret (Sum.inr r22))) (IntKind.wrap .i64 ((v14.len : Int) - (1 : Int)))))
noncomputable def Af53_largeint_nat_div : Ann := (.two .nil (.two (.two .nil (.two (.two .nil .nil) .nil)) (.two (.two .nil (.two (.two .nil (.two .nil .nil)) .nil)) (.two .nil (.two .nil (.two .nil (.two .nil (.two .nil (.two .nil (.two (.two .nil (.one (.loop [(13, (.int .i64))] [66, 67, 68, 69, 70, 71, 72, 73, 74, 75, 76] (.two (.two .nil (.two .nil .nil)) (.two (.one .nil) .nil))))) (.two .nil (.two .nil .nil))))))))))))
theorem Cf53_largeint_nat_div_ok : Cf53_largeint_nat_div.Ok := mkC_ok mixed tysOk zerosOk eqsOk ⟨Sf62_largeint_nat_short, Sf70_largeint_nat_left, Sf71_largeint_nat_right, Sf81_largeint_nat_cmp, Sf84_largeint_nat_trim, Sf85_bits_LeadingZeros32, Sf86_largeint_nat_take, trivial⟩ trivial
theorem Ef53_largeint_nat_div (x : (Sl × Sl)) : evF Cf53_largeint_nat_div Try.f53 89 (.pair .sl .sl) (.tup (.pair .sl .sl)) Af53_largeint_nat_div x = f53_largeint_nat_div x.1 x.2 := by kernel_rfl
theorem Sf53_largeint_nat_div : SoundF Try.prog 53 ⟨(.pair .sl .sl), (.tup (.pair .sl .sl)), fun x => f53_largeint_nat_div x.1 x.2⟩ :=
  soundF_of Cf53_largeint_nat_div_ok Try.func53 (by kernel_rfl) (by kernel_rfl) Ef53_largeint_nat_div
noncomputable def Cf16_largeint_Quo : Ctx := mkC Try.prog tys zeros eqs [(52, ⟨(.pair (.agg (.pair .bool .str)) (.agg (.pair .bool .str))), (.tup (.pair (.agg (.pair .sl .bool)) (.pair (.agg (.pair .sl .bool)) (.int .i64)))), fun x => f52_largeint_two x.1 x.2⟩), (53, ⟨(.pair .sl .sl), (.tup (.pair .sl .sl)), fun x => f53_largeint_nat_div x.1 x.2⟩), (54, ⟨(.pair .sl .bool), (.agg (.pair .bool .str)), fun x => f54_largeint_large x.1 x.2⟩)] []
/-- palaverlargeint.Quo -/
noncomputable def f16_largeint_Quo (x0 : (Bool × ByteArray)) (x1 : (Bool × ByteArray)) : M ((Bool × ByteArray) × ((Bool × ByteArray) × Int)) :=
  bnd (newC 23 [.bool x0.1, .string x0.2]) fun (p1 : Addr) =>
  bnd (newC 23 [.bool x1.1, .string x1.2]) fun (p2 : Addr) =>
  bnd (newC 23 [.bool false, .string (ByteArray.mk #[])]) fun (p3 : Addr) =>
  bnd (newC 23 [.bool false, .string (ByteArray.mk #[])]) fun (p4 : Addr) =>
  bnd (ld (.agg (.pair .bool .str)) p1) fun (v5 : (Bool × ByteArray)) =>
  bnd (ld (.agg (.pair .bool .str)) p2) fun (v6 : (Bool × ByteArray)) =>
  bnd (f52_largeint_two v5 v6) fun (r7 : ((Sl × Bool) × ((Sl × Bool) × Int))) =>
  bnd (newC 52 [.slice none 0 0, .bool false]) fun (p8 : Addr) =>
  bnd (newC 52 [.slice none 0 0, .bool false]) fun (p9 : Addr) =>
  bnd (wrs p8 0 [.slice r7.1.1.a r7.1.1.len r7.1.1.cap, .bool r7.1.2]) fun _ =>
  bnd (wrs p9 0 [.slice r7.2.1.1.a r7.2.1.1.len r7.2.1.1.cap, .bool r7.2.1.2]) fun _ =>
  bnd (
  cnd (r7.2.2 == (0 : Int)) (
  bnd (ld .sl (Addr.add p9 0)) fun (v10 : Sl) =>
  ret ((v10.len : Int) == (0 : Int))) (
  ret false)) fun (b11 : Bool) =>
  bnd (
  cnd b11 (
  ret (90 : Int)) (
  ret r7.2.2)) fun (s12 : Int) =>
  cnd (s12 != (0 : Int)) (
  bnd (wrs p3 0 [.bool false, .string (ByteArray.mk #[])]) fun _ =>
  bnd (wrs p4 0 [.bool false, .string (ByteArray.mk #[])]) fun _ =>
  bnd (ld (.agg (.pair .bool .str)) p3) fun (v13 : (Bool × ByteArray)) =>
  bnd (ld (.agg (.pair .bool .str)) p4) fun (v14 : (Bool × ByteArray)) =>
  ret (v13, v14, s12)) (
  bnd (ld .sl (Addr.add p8 0)) fun (v15 : Sl) =>
  bnd (ld .sl (Addr.add p9 0)) fun (v16 : Sl) =>
  bnd (f53_largeint_nat_div v15 v16) fun (r17 : (Sl × Sl)) =>
  bnd (
  bnd (ordM 16 7 (regionIn 7 Try.f16)) fun (o19 : List Nat) =>
  bnd (ld .bool (Addr.add p8 1)) fun (v20 : Bool) =>
  bnd (ld .bool (Addr.add p9 1)) fun (v21 : Bool) =>
  bnd (ld .bool (Addr.add p8 1)) fun (v22 : Bool) =>
  bnd (f54_largeint_large r17.1 (!(v20 == v21))) fun (r23 : (Bool × ByteArray)) =>
  bnd (
  bnd (chk .bool (Addr.add p8 1) v22) fun _ =>
  bnd (chk .bool (Addr.add p9 1) v21) fun _ =>
  bnd (chk .bool (Addr.add p8 1) v20) fun _ =>
  ret ()) fun _ =>
  bnd (f54_largeint_large r17.2 v22) fun (r24 : (Bool × ByteArray)) =>
  bnd (
  bnd (chk .bool (Addr.add p9 1) v21) fun _ =>
  bnd (chk .bool (Addr.add p8 1) v20) fun _ =>
  ret ()) fun _ =>
  bnd (wrs p3 0 [.bool r23.1, .string r23.2]) fun _ =>
  bnd (ret ()) fun _ =>
  bnd (wrs p4 0 [.bool r24.1, .string r24.2]) fun _ =>
  bnd (ret ()) fun _ =>
  ret (0 : Int)) fun (s18 : Int) =>
  bnd (ld (.agg (.pair .bool .str)) p3) fun (v25 : (Bool × ByteArray)) =>
  bnd (ld (.agg (.pair .bool .str)) p4) fun (v26 : (Bool × ByteArray)) =>
  ret (v25, v26, s18))
noncomputable def Af16_largeint_Quo : Ann := (.two .nil (.two .nil (.two (.two .nil (.join [(9, (.int .i64))] [] false (.two .nil .nil))) (.two (.two .nil (.two (.two .nil .nil) .nil)) (.two .nil (.two (.join [(6, (.int .i64))] [40, 41, 42, 43, 44, 45, 46, 47, 48, 49, 50] false (.ord 16 [(0, 16382), (0, 16381), (2, 16377), (0, 16375), (8, 16359), (20, 16331), (33, 16286), (0, 16255), (0, 16127), (256, 15615), (704, 14719), (1151, 14271), (4095, 11263), (8191, 8191)] (.o 0 (.o 1 (.o 2 (.o 3 (.o 4 (.o 5 (.o 7 (.o 8 (.o 9 (.o 6 (.o 10 (.o 11 (.o 12 (.o 13 .done)))))))))))))))) .nil))))))
theorem Cf16_largeint_Quo_ok : Cf16_largeint_Quo.Ok := mkC_ok mixed tysOk zerosOk eqsOk ⟨Sf52_largeint_two, Sf53_largeint_nat_div, Sf54_largeint_large, trivial⟩ trivial
theorem Ef16_largeint_Quo (x : ((Bool × ByteArray) × (Bool × ByteArray))) : evF Cf16_largeint_Quo Try.f16 51 (.pair (.agg (.pair .bool .str)) (.agg (.pair .bool .str))) (.tup (.pair (.agg (.pair .bool .str)) (.pair (.agg (.pair .bool .str)) (.int .i64)))) Af16_largeint_Quo x = f16_largeint_Quo x.1 x.2 := by kernel_rfl
theorem Sf16_largeint_Quo : SoundF Try.prog 16 ⟨(.pair (.agg (.pair .bool .str)) (.agg (.pair .bool .str))), (.tup (.pair (.agg (.pair .bool .str)) (.pair (.agg (.pair .bool .str)) (.int .i64)))), fun x => f16_largeint_Quo x.1 x.2⟩ :=
  soundF_of Cf16_largeint_Quo_ok Try.func16 (by kernel_rfl) (by kernel_rfl) Ef16_largeint_Quo
noncomputable def Cf72_largeint_nat_add : Ctx := mkC Try.prog tys zeros eqs [(84, ⟨.sl, .sl, fun x => f84_largeint_nat_trim x⟩)] [(91, ⟨(.pair (.int .u32) (.pair (.int .u32) (.int .u32))), (.tup (.pair (.int .u32) (.int .u32))), fun x => Gf91_bits_Add32 x.1 x.2.1 x.2.2⟩)]
/-- (palaverlargeint.nat).add -/
noncomputable def f72_largeint_nat_add (x0 : Sl) (x1 : Sl) : M Sl :=
  bnd (
  cnd (decide ((x0.len : Int) < (x1.len : Int))) (
  ret (x1, x0)) (
  ret (x0, x1))) fun (s1 : (Sl × Sl)) =>
  bnd (runV Try.prog .sl (Instr.makeSlice 50 (.int .i64 (IntKind.wrap .i64 ((s1.1.len : Int) + (1 : Int)))) (.int .i64 (IntKind.wrap .i64 ((s1.1.len : Int) + (1 : Int)))))) fun (v2 : Sl) =>
  loopM (fun (s3 : (Int × Int)) =>
  cnd (decide (s3.2 < (s1.1.len : Int))) (
  bnd (
  cnd (decide (s3.2 < (s1.2.len : Int))) (
  bnd (ix 1 s1.2 s3.2) fun (p5 : Addr) =>
  bnd (ld (.int .u32) p5) fun (v6 : Int) =>
  ret v6) (
  ret (0 : Int))) fun (s4 : Int) =>
  bnd (ix 1 s1.1 s3.2) fun (p7 : Addr) =>
  bnd (ld (.int .u32) p7) fun (v8 : Int) =>
  bnd (ix 1 v2 s3.2) fun (p9 : Addr) =>
  bnd (wrs p9 0 [.int .u32 ((Gf91_bits_Add32 v8 s4 s3.1).1)]) fun _ =>
  ret (Sum.inl ((Gf91_bits_Add32 v8 s4 s3.1).2, (IntKind.wrap .i64 (s3.2 + (1 : Int)))))) (
  bnd (
  bnd (ix 1 v2 (s1.1.len : Int)) fun (p10 : Addr) =>
  bnd (wrs p10 0 [.int .u32 s3.1]) fun _ =>
  bnd (f84_largeint_nat_trim v2) fun (r11 : Sl) =>
  ret r11) fun r12 =>
  ret (Sum.inr r12))) ((0 : Int), (0 : Int))
noncomputable def Af72_largeint_nat_add : Ann := (.two .nil (.two (.two .nil (.join [(0, .sl), (1, .sl)] [14, 15] false (.two .nil .nil))) (.two .nil (.two .nil (.two (.two .nil (.one (.loop [(6, (.int .u32)), (22, (.int .i64))] [7, 8, 23, 24, 25, 26, 27, 28, 29, 30, 31, 32, 33, 34, 35, 36, 37, 38, 39, 40, 41, 42, 43, 44, 45, 46] (.two .nil (.two (.two .nil .nil) (.two (.one (.two .nil (.two .nil (.two (.two .nil (.join [(8, (.int .u32))] [29, 30, 31, 32] false (.two .nil .nil))) .nil)))) .nil)))))) (.two .nil (.two .nil .nil)))))))
theorem Cf72_largeint_nat_add_ok : Cf72_largeint_nat_add.Ok := mkC_ok mixed tysOk zerosOk eqsOk ⟨Sf84_largeint_nat_trim, trivial⟩ ⟨Pf91_bits_Add32, trivial⟩
theorem Ef72_largeint_nat_add (x : (Sl × Sl)) : evF Cf72_largeint_nat_add Try.f72 54 (.pair .sl .sl) .sl Af72_largeint_nat_add x = f72_largeint_nat_add x.1 x.2 := by kernel_rfl
theorem Sf72_largeint_nat_add : SoundF Try.prog 72 ⟨(.pair .sl .sl), .sl, fun x => f72_largeint_nat_add x.1 x.2⟩ :=
  soundF_of Cf72_largeint_nat_add_ok Try.func72 (by kernel_rfl) (by kernel_rfl) Ef72_largeint_nat_add
noncomputable def Cf82_largeint_nat_sub : Ctx := mkC Try.prog tys zeros eqs [(84, ⟨.sl, .sl, fun x => f84_largeint_nat_trim x⟩)] [(94, ⟨(.pair (.int .u32) (.pair (.int .u32) (.int .u32))), (.tup (.pair (.int .u32) (.int .u32))), fun x => Gf94_bits_Sub32 x.1 x.2.1 x.2.2⟩)]
/-- (palaverlargeint.nat).sub -/
noncomputable def f82_largeint_nat_sub (x0 : Sl) (x1 : Sl) : M Sl :=
  bnd (runV Try.prog .sl (Instr.makeSlice 50 (.int .i64 (x0.len : Int)) (.int .i64 (x0.len : Int)))) fun (v1 : Sl) =>
  loopM (fun (s2 : (Int × Int)) =>
  cnd (decide (s2.2 < (x0.len : Int))) (
  bnd (
  cnd (decide (s2.2 < (x1.len : Int))) (
  bnd (ix 1 x1 s2.2) fun (p4 : Addr) =>
  bnd (ld (.int .u32) p4) fun (v5 : Int) =>
  ret v5) (
  ret (0 : Int))) fun (s3 : Int) =>
  bnd (ix 1 x0 s2.2) fun (p6 : Addr) =>
  bnd (ld (.int .u32) p6) fun (v7 : Int) =>
  bnd (ix 1 v1 s2.2) fun (p8 : Addr) =>
  bnd (wrs p8 0 [.int .u32 ((Gf94_bits_Sub32 v7 s3 s2.1).1)]) fun _ =>
  ret (Sum.inl ((Gf94_bits_Sub32 v7 s3 s2.1).2, (IntKind.wrap .i64 (s2.2 + (1 : Int)))))) (
  bnd (
  bnd (f84_largeint_nat_trim v1) fun (r9 : Sl) =>
  ret r9) fun r10 =>
  ret (Sum.inr r10))) ((0 : Int), (0 : Int))
noncomputable def Af82_largeint_nat_sub : Ann := (.two .nil (.two .nil (.two .nil (.two (.two .nil (.one (.loop [(6, (.int .u32)), (14, (.int .i64))] [7, 8, 15, 16, 17, 18, 19, 20, 21, 22, 23, 24, 25, 26, 27, 28, 29, 30, 31, 32, 33, 34, 35, 36, 37, 38] (.two .nil (.two (.two .nil .nil) (.two (.one (.two .nil (.two .nil (.two (.two .nil (.join [(8, (.int .u32))] [21, 22, 23, 24] false (.two .nil .nil))) .nil)))) .nil)))))) (.two .nil .nil)))))
theorem Cf82_largeint_nat_sub_ok : Cf82_largeint_nat_sub.Ok := mkC_ok mixed tysOk zerosOk eqsOk ⟨Sf84_largeint_nat_trim, trivial⟩ ⟨Pf94_bits_Sub32, trivial⟩
theorem Ef82_largeint_nat_sub (x : (Sl × Sl)) : evF Cf82_largeint_nat_sub Try.f82 41 (.pair .sl .sl) .sl Af82_largeint_nat_sub x = f82_largeint_nat_sub x.1 x.2 := by kernel_rfl
theorem Sf82_largeint_nat_sub : SoundF Try.prog 82 ⟨(.pair .sl .sl), .sl, fun x => f82_largeint_nat_sub x.1 x.2⟩ :=
  soundF_of Cf82_largeint_nat_sub_ok Try.func82 (by kernel_rfl) (by kernel_rfl) Ef82_largeint_nat_sub
noncomputable def Cf50_largeint_number_add : Ctx := mkC Try.prog tys zeros eqs [(72, ⟨(.pair .sl .sl), .sl, fun x => f72_largeint_nat_add x.1 x.2⟩), (81, ⟨(.pair .sl .sl), (.int .i64), fun x => f81_largeint_nat_cmp x.1 x.2⟩), (82, ⟨(.pair .sl .sl), .sl, fun x => f82_largeint_nat_sub x.1 x.2⟩)] []
/-- (palaverlargeint.number).add -/
noncomputable def f50_largeint_number_add (x0 : (Sl × Bool)) (x1 : (Sl × Bool)) : M (Sl × Bool) :=
  bnd (newC 52 [.slice x0.1.a x0.1.len x0.1.cap, .bool x0.2]) fun (p1 : Addr) =>
  bnd (newC 52 [.slice x1.1.a x1.1.len x1.1.cap, .bool x1.2]) fun (p2 : Addr) =>
  bnd (newC 52 [.slice none 0 0, .bool false]) fun (p3 : Addr) =>
  bnd (ld .bool (Addr.add p1 1)) fun (v4 : Bool) =>
  bnd (ld .bool (Addr.add p2 1)) fun (v5 : Bool) =>
  cnd (v4 == v5) (
  bnd (
  bnd (ordM 50 2 (regionIn 2 Try.f50)) fun (o7 : List Nat) =>
  bnd (ld .sl (Addr.add p1 0)) fun (v8 : Sl) =>
  bnd (ld .sl (Addr.add p2 0)) fun (v9 : Sl) =>
  bnd (ld .bool (Addr.add p1 1)) fun (v10 : Bool) =>
  bnd (f72_largeint_nat_add v8 v9) fun (r11 : Sl) =>
  bnd (
  bnd (chk .bool (Addr.add p1 1) v10) fun _ =>
  ret ()) fun _ =>
  bnd (wrs p3 0 [.slice r11.a r11.len r11.cap, .bool v10]) fun _ =>
  bnd (ret ()) fun _ =>
  ret ()) fun (s6 : Unit) =>
  bnd (ld (.agg (.pair .sl .bool)) p3) fun (v12 : (Sl × Bool)) =>
  ret v12) (
  bnd (ld .sl (Addr.add p1 0)) fun (v13 : Sl) =>
  bnd (ld .sl (Addr.add p2 0)) fun (v14 : Sl) =>
  bnd (f81_largeint_nat_cmp v13 v14) fun (r15 : Int) =>
  bnd (
  cnd (decide (r15 < (0 : Int))) (
  bnd (ld (.agg (.pair .sl .bool)) p2) fun (v17 : (Sl × Bool)) =>
  bnd (ld (.agg (.pair .sl .bool)) p1) fun (v18 : (Sl × Bool)) =>
  bnd (wrs p1 0 [.slice v17.1.a v17.1.len v17.1.cap, .bool v17.2]) fun _ =>
  bnd (wrs p2 0 [.slice v18.1.a v18.1.len v18.1.cap, .bool v18.2]) fun _ =>
  ret ()) (
  ret ())) fun (s16 : Unit) =>
  bnd (
  bnd (ordM 50 5 (regionIn 5 Try.f50)) fun (o20 : List Nat) =>
  bnd (ld .sl (Addr.add p1 0)) fun (v21 : Sl) =>
  bnd (ld .sl (Addr.add p2 0)) fun (v22 : Sl) =>
  bnd (ld .bool (Addr.add p1 1)) fun (v23 : Bool) =>
  bnd (f82_largeint_nat_sub v21 v22) fun (r24 : Sl) =>
  bnd (
  bnd (chk .bool (Addr.add p1 1) v23) fun _ =>
  ret ()) fun _ =>
  bnd (wrs p3 0 [.slice r24.a r24.len r24.cap, .bool v23]) fun _ =>
  bnd (ret ()) fun _ =>
  ret ()) fun (s19 : Unit) =>
  bnd (ld (.agg (.pair .sl .bool)) p3) fun (v25 : (Sl × Bool)) =>
  ret v25)
noncomputable def Af50_largeint_number_add : Ann := (.two .nil (.two (.one (.two .nil (.two (.two (.join [] [11, 12, 13, 14, 15, 16, 17, 18] false (.ord 50 [(0, 510), (1, 508), (0, 507), (4, 499), (10, 485), (0, 479), (32, 415), (80, 303), (255, 127)] (.o 0 (.o 1 (.o 2 (.o 3 (.o 5 (.o 6 (.o 4 (.o 7 (.o 8 .done))))))))))) .nil) (.two .nil (.join [] [26, 27] false (.two .nil .nil)))))) (.two (.join [] [28, 29, 30, 31, 32, 33, 34, 35] false (.ord 50 [(0, 510), (1, 508), (0, 507), (4, 499), (10, 485), (0, 479), (32, 415), (80, 303), (255, 127)] (.o 0 (.o 1 (.o 2 (.o 3 (.o 5 (.o 6 (.o 4 (.o 7 (.o 8 .done))))))))))) .nil)))
theorem Cf50_largeint_number_add_ok : Cf50_largeint_number_add.Ok := mkC_ok mixed tysOk zerosOk eqsOk ⟨Sf72_largeint_nat_add, Sf81_largeint_nat_cmp, Sf82_largeint_nat_sub, trivial⟩ trivial
theorem Ef50_largeint_number_add (x : ((Sl × Bool) × (Sl × Bool))) : evF Cf50_largeint_number_add Try.f50 36 (.pair (.agg (.pair .sl .bool)) (.agg (.pair .sl .bool))) (.agg (.pair .sl .bool)) Af50_largeint_number_add x = f50_largeint_number_add x.1 x.2 := by kernel_rfl
theorem Sf50_largeint_number_add : SoundF Try.prog 50 ⟨(.pair (.agg (.pair .sl .bool)) (.agg (.pair .sl .bool))), (.agg (.pair .sl .bool)), fun x => f50_largeint_number_add x.1 x.2⟩ :=
  soundF_of Cf50_largeint_number_add_ok Try.func50 (by kernel_rfl) (by kernel_rfl) Ef50_largeint_number_add
noncomputable def Cf48_largeint_told : Ctx := mkC Try.prog tys zeros eqs [(54, ⟨(.pair .sl .bool), (.agg (.pair .bool .str)), fun x => f54_largeint_large x.1 x.2⟩)] []
/-- palaverlargeint.told -/
noncomputable def f48_largeint_told (x0 : (Sl × Bool)) : M ((Bool × ByteArray) × Int) :=
  bnd (newC 52 [.slice x0.1.a x0.1.len x0.1.cap, .bool x0.2]) fun (p1 : Addr) =>
  bnd (newC 23 [.bool false, .string (ByteArray.mk #[])]) fun (p2 : Addr) =>
  bnd (ld .sl (Addr.add p1 0)) fun (v3 : Sl) =>
  bnd (ld .bool (Addr.add p1 1)) fun (v4 : Bool) =>
  bnd (f54_largeint_large v3 v4) fun (r5 : (Bool × ByteArray)) =>
  bnd (newC 23 [.bool false, .string (ByteArray.mk #[])]) fun (p6 : Addr) =>
  bnd (wrs p6 0 [.bool r5.1, .string r5.2]) fun _ =>
  bnd (ld .str (Addr.add p6 1)) fun (v7 : ByteArray) =>
  cnd (decide ((ByteArray.size v7 : Int) > (4096 : Int))) (
  bnd (wrs p2 0 [.bool false, .string (ByteArray.mk #[])]) fun _ =>
  bnd (ld (.agg (.pair .bool .str)) p2) fun (v8 : (Bool × ByteArray)) =>
  ret (v8, (92 : Int))) (
  bnd (ld (.agg (.pair .bool .str)) p6) fun (v9 : (Bool × ByteArray)) =>
  bnd (wrs p2 0 [.bool v9.1, .string v9.2]) fun _ =>
  bnd (ld (.agg (.pair .bool .str)) p2) fun (v10 : (Bool × ByteArray)) =>
  ret (v10, (0 : Int)))
noncomputable def Af48_largeint_told : Ann := (.two .nil (.two .nil (.two (.two .nil (.two (.two .nil .nil) .nil)) (.two .nil .nil))))
theorem Cf48_largeint_told_ok : Cf48_largeint_told.Ok := mkC_ok mixed tysOk zerosOk eqsOk ⟨Sf54_largeint_large, trivial⟩ trivial
theorem Ef48_largeint_told (x : (Sl × Bool)) : evF Cf48_largeint_told Try.f48 16 (.agg (.pair .sl .bool)) (.tup (.pair (.agg (.pair .bool .str)) (.int .i64))) Af48_largeint_told x = f48_largeint_told x := by kernel_rfl
theorem Sf48_largeint_told : SoundF Try.prog 48 ⟨(.agg (.pair .sl .bool)), (.tup (.pair (.agg (.pair .bool .str)) (.int .i64))), fun x => f48_largeint_told x⟩ :=
  soundF_of Cf48_largeint_told_ok Try.func48 (by kernel_rfl) (by kernel_rfl) Ef48_largeint_told
noncomputable def Cf14_largeint_Div : Ctx := mkC Try.prog tys zeros eqs [(16, ⟨(.pair (.agg (.pair .bool .str)) (.agg (.pair .bool .str))), (.tup (.pair (.agg (.pair .bool .str)) (.pair (.agg (.pair .bool .str)) (.int .i64)))), fun x => f16_largeint_Quo x.1 x.2⟩), (37, ⟨(.int .i64), (.agg (.pair .bool .str)), fun x => f37_largeint_Of x⟩), (48, ⟨(.agg (.pair .sl .bool)), (.tup (.pair (.agg (.pair .bool .str)) (.int .i64))), fun x => f48_largeint_told x⟩), (49, ⟨(.agg (.pair .bool .str)), (.agg (.pair .sl .bool)), fun x => f49_largeint_of x⟩), (50, ⟨(.pair (.agg (.pair .sl .bool)) (.agg (.pair .sl .bool))), (.agg (.pair .sl .bool)), fun x => f50_largeint_number_add x.1 x.2⟩)] []
/-- palaverlargeint.Div -/
noncomputable def f14_largeint_Div (x0 : (Bool × ByteArray)) (x1 : (Bool × ByteArray)) : M ((Bool × ByteArray) × ((Bool × ByteArray) × Int)) :=
  bnd (newC 23 [.bool x0.1, .string x0.2]) fun (p1 : Addr) =>
  bnd (newC 23 [.bool x1.1, .string x1.2]) fun (p2 : Addr) =>
  bnd (newC 23 [.bool false, .string (ByteArray.mk #[])]) fun (p3 : Addr) =>
  bnd (newC 23 [.bool false, .string (ByteArray.mk #[])]) fun (p4 : Addr) =>
  bnd (ld (.agg (.pair .bool .str)) p1) fun (v5 : (Bool × ByteArray)) =>
  bnd (ld (.agg (.pair .bool .str)) p2) fun (v6 : (Bool × ByteArray)) =>
  bnd (f16_largeint_Quo v5 v6) fun (r7 : ((Bool × ByteArray) × ((Bool × ByteArray) × Int))) =>
  bnd (newC 23 [.bool false, .string (ByteArray.mk #[])]) fun (p8 : Addr) =>
  bnd (newC 23 [.bool false, .string (ByteArray.mk #[])]) fun (p9 : Addr) =>
  bnd (wrs p8 0 [.bool r7.1.1, .string r7.1.2]) fun _ =>
  bnd (wrs p9 0 [.bool r7.2.1.1, .string r7.2.1.2]) fun _ =>
  bnd (
  cnd (r7.2.2 != (0 : Int)) (
  ret true) (
  bnd (ld .str (Addr.add p9 1)) fun (v10 : ByteArray) =>
  ret (strEq v10 (ByteArray.mk #[])))) fun (b11 : Bool) =>
  bnd (
  cnd b11 (
  ret true) (
  bnd (ld .bool (Addr.add p9 0)) fun (v12 : Bool) =>
  bnd (ld .bool (Addr.add p2 0)) fun (v13 : Bool) =>
  ret (v12 == v13))) fun (b14 : Bool) =>
  cnd b14 (
  bnd (
  bnd (ordM 14 3 (regionIn 3 Try.f14)) fun (o16 : List Nat) =>
  bnd (ld (.agg (.pair .bool .str)) p8) fun (v17 : (Bool × ByteArray)) =>
  bnd (ld (.agg (.pair .bool .str)) p9) fun (v18 : (Bool × ByteArray)) =>
  bnd (wrs p3 0 [.bool v17.1, .string v17.2]) fun _ =>
  bnd (
  bnd (chk (.agg (.pair .bool .str)) p9 v18) fun _ =>
  ret ()) fun _ =>
  bnd (wrs p4 0 [.bool v18.1, .string v18.2]) fun _ =>
  bnd (ret ()) fun _ =>
  ret r7.2.2) fun (s15 : Int) =>
  bnd (ld (.agg (.pair .bool .str)) p3) fun (v19 : (Bool × ByteArray)) =>
  bnd (ld (.agg (.pair .bool .str)) p4) fun (v20 : (Bool × ByteArray)) =>
  ret (v19, v20, s15)) (
  bnd (ld (.agg (.pair .bool .str)) p8) fun (v21 : (Bool × ByteArray)) =>
  bnd (f49_largeint_of v21) fun (r22 : (Sl × Bool)) =>
  bnd (f37_largeint_Of (-1 : Int)) fun (r23 : (Bool × ByteArray)) =>
  bnd (f49_largeint_of r23) fun (r24 : (Sl × Bool)) =>
  bnd (f50_largeint_number_add r22 r24) fun (r25 : (Sl × Bool)) =>
  bnd (f48_largeint_told r25) fun (r26 : ((Bool × ByteArray) × Int)) =>
  bnd (wrs p8 0 [.bool r26.1.1, .string r26.1.2]) fun _ =>
  cnd (r26.2 != (0 : Int)) (
  bnd (wrs p3 0 [.bool false, .string (ByteArray.mk #[])]) fun _ =>
  bnd (wrs p4 0 [.bool false, .string (ByteArray.mk #[])]) fun _ =>
  bnd (ld (.agg (.pair .bool .str)) p3) fun (v27 : (Bool × ByteArray)) =>
  bnd (ld (.agg (.pair .bool .str)) p4) fun (v28 : (Bool × ByteArray)) =>
  ret (v27, v28, r26.2)) (
  bnd (
  bnd (ordM 14 7 (regionIn 7 Try.f14)) fun (o30 : List Nat) =>
  bnd (ld (.agg (.pair .bool .str)) p9) fun (v31 : (Bool × ByteArray)) =>
  bnd (ld (.agg (.pair .bool .str)) p2) fun (v32 : (Bool × ByteArray)) =>
  bnd (f49_largeint_of v31) fun (r33 : (Sl × Bool)) =>
  bnd (
  bnd (chk (.agg (.pair .bool .str)) p2 v32) fun _ =>
  ret ()) fun _ =>
  bnd (f49_largeint_of v32) fun (r34 : (Sl × Bool)) =>
  bnd (ret ()) fun _ =>
  bnd (f50_largeint_number_add r33 r34) fun (r35 : (Sl × Bool)) =>
  bnd (ret ()) fun _ =>
  bnd (f48_largeint_told r35) fun (r36 : ((Bool × ByteArray) × Int)) =>
  bnd (ret ()) fun _ =>
  bnd (wrs p9 0 [.bool r36.1.1, .string r36.1.2]) fun _ =>
  bnd (ret ()) fun _ =>
  ret ()) fun (s29 : Unit) =>
  bnd (
  bnd (ordM 14 8 (regionIn 8 Try.f14)) fun (o38 : List Nat) =>
  bnd (ld (.agg (.pair .bool .str)) p8) fun (v39 : (Bool × ByteArray)) =>
  bnd (ld (.agg (.pair .bool .str)) p9) fun (v40 : (Bool × ByteArray)) =>
  bnd (wrs p3 0 [.bool v39.1, .string v39.2]) fun _ =>
  bnd (
  bnd (chk (.agg (.pair .bool .str)) p9 v40) fun _ =>
  ret ()) fun _ =>
  bnd (wrs p4 0 [.bool v40.1, .string v40.2]) fun _ =>
  bnd (ret ()) fun _ =>
  ret (0 : Int)) fun (s37 : Int) =>
  bnd (ld (.agg (.pair .bool .str)) p3) fun (v41 : (Bool × ByteArray)) =>
  bnd (ld (.agg (.pair .bool .str)) p4) fun (v42 : (Bool × ByteArray)) =>
  ret (v41, v42, s37)))
noncomputable def Af14_largeint_Div : Ann := (.two .nil (.two .nil (.two (.two .nil (.two (.two (.join [(6, (.int .i64))] [31, 32, 33] false (.ord 14 [(0, 62), (0, 61), (0, 59), (1, 54), (11, 45), (31, 27)] (.o 0 (.o 1 (.o 2 (.o 3 (.o 4 (.o 5 .done)))))))) .nil) .nil)) (.two .nil (.two (.two .nil (.two (.two .nil .nil) .nil)) (.two (.join [] [48, 49, 50, 51, 52, 53, 54, 55, 56] false (.ord 14 [(0, 1022), (1, 1020), (0, 1019), (6, 1011), (10, 997), (16, 975), (32, 927), (64, 831), (64, 703), (255, 383)] (.o 0 (.o 2 (.o 1 (.o 3 (.o 4 (.o 5 (.o 6 (.o 7 (.o 8 (.o 9 .done)))))))))))) (.two (.join [(6, (.int .i64))] [57, 58] false (.ord 14 [(0, 30), (0, 29), (1, 26), (7, 21), (15, 15)] (.o 0 (.o 1 (.o 2 (.o 3 (.o 4 .done))))))) .nil)))))))
theorem Cf14_largeint_Div_ok : Cf14_largeint_Div.Ok := mkC_ok mixed tysOk zerosOk eqsOk ⟨Sf16_largeint_Quo, Sf37_largeint_Of, Sf48_largeint_told, Sf49_largeint_of, Sf50_largeint_number_add, trivial⟩ trivial
theorem Ef14_largeint_Div (x : ((Bool × ByteArray) × (Bool × ByteArray))) : evF Cf14_largeint_Div Try.f14 59 (.pair (.agg (.pair .bool .str)) (.agg (.pair .bool .str))) (.tup (.pair (.agg (.pair .bool .str)) (.pair (.agg (.pair .bool .str)) (.int .i64)))) Af14_largeint_Div x = f14_largeint_Div x.1 x.2 := by kernel_rfl
theorem Sf14_largeint_Div : SoundF Try.prog 14 ⟨(.pair (.agg (.pair .bool .str)) (.agg (.pair .bool .str))), (.tup (.pair (.agg (.pair .bool .str)) (.pair (.agg (.pair .bool .str)) (.int .i64)))), fun x => f14_largeint_Div x.1 x.2⟩ :=
  soundF_of Cf14_largeint_Div_ok Try.func14 (by kernel_rfl) (by kernel_rfl) Ef14_largeint_Div
noncomputable def Cf89_largeint_nat_turn : Ctx := mkC Try.prog tys zeros eqs [] []
/-- (palaverlargeint.nat).turn -/
noncomputable def f89_largeint_nat_turn (x0 : Sl) : M Unit :=
  loopM (fun (s1 : (Int × Int)) =>
  cnd (decide (s1.2 < (x0.len : Int))) (
  bnd (ix 1 x0 s1.2) fun (p2 : Addr) =>
  bnd (ld (.int .u32) p2) fun (v3 : Int) =>
  bnd (ix 1 x0 s1.2) fun (p4 : Addr) =>
  bnd (wrs p4 0 [.int .u32 (IntKind.wrap .u32 (IntKind.wrap .u64 ((IntKind.wrap .u64 (bXor .u32 (4294967295) v3)) + s1.1)))]) fun _ =>
  ret (Sum.inl ((shrI .u64 (IntKind.wrap .u64 ((IntKind.wrap .u64 (bXor .u32 (4294967295) v3)) + s1.1)) 32), (IntKind.wrap .i64 (s1.2 + (1 : Int)))))) (
  ret (Sum.inr ()))) ((1 : Int), (0 : Int))
noncomputable def Af89_largeint_nat_turn : Ann := (.two .nil (.two .nil (.one (.loop [(2, (.int .u64)), (8, (.int .i64))] [3, 4, 5, 9, 10, 11, 12, 13, 14, 15, 16, 17, 18, 19, 20, 21, 22, 23, 24, 25] (.two .nil (.two (.two .nil .nil) (.two (.one (.two .nil (.two .nil .nil))) .nil)))))))
theorem Cf89_largeint_nat_turn_ok : Cf89_largeint_nat_turn.Ok := mkC_ok mixed tysOk zerosOk eqsOk trivial trivial
theorem Ef89_largeint_nat_turn (x : Sl) : evF Cf89_largeint_nat_turn Try.f89 26 .sl (.tup .unit) Af89_largeint_nat_turn x = f89_largeint_nat_turn x := by kernel_rfl
theorem Sf89_largeint_nat_turn : SoundF Try.prog 89 ⟨.sl, (.tup .unit), fun x => f89_largeint_nat_turn x⟩ :=
  soundF_of Cf89_largeint_nat_turn_ok Try.func89 (by kernel_rfl) (by kernel_rfl) Ef89_largeint_nat_turn
noncomputable def Cf88_largeint_number_bits : Ctx := mkC Try.prog tys zeros eqs [(89, ⟨.sl, (.tup .unit), fun x => f89_largeint_nat_turn x⟩)] []
/-- (palaverlargeint.number).bits -/
noncomputable def f88_largeint_number_bits (x0 : (Sl × Bool)) (x1 : Int) : M Sl :=
  bnd (newC 52 [.slice x0.1.a x0.1.len x0.1.cap, .bool x0.2]) fun (p1 : Addr) =>
  bnd (runV Try.prog .sl (Instr.makeSlice 50 (.int .i64 x1) (.int .i64 x1))) fun (v2 : Sl) =>
  bnd (ld .sl (Addr.add p1 0)) fun (v3 : Sl) =>
  bnd (runV Try.prog (.int .i64) (Builtin.copy_ #[50, 50] 3 #[.slice v2.a v2.len v2.cap, .slice v3.a v3.len v3.cap])) fun (v4 : Int) =>
  bnd (ld .bool (Addr.add p1 1)) fun (v5 : Bool) =>
  bnd (
  cnd v5 (
  bnd (f89_largeint_nat_turn v2) fun (r7 : Unit) =>
  ret ()) (
  ret ())) fun (s6 : Unit) =>
  ret v2
noncomputable def Af88_largeint_number_bits : Ann := (.two .nil (.two .nil (.two .nil (.two (.two .nil (.join [] [14, 15] false (.two .nil .nil))) (.two .nil .nil)))))
theorem Cf88_largeint_number_bits_ok : Cf88_largeint_number_bits.Ok := mkC_ok mixed tysOk zerosOk eqsOk ⟨Sf89_largeint_nat_turn, trivial⟩ trivial
theorem Ef88_largeint_number_bits (x : ((Sl × Bool) × Int)) : evF Cf88_largeint_number_bits Try.f88 17 (.pair (.agg (.pair .sl .bool)) (.int .i64)) .sl Af88_largeint_number_bits x = f88_largeint_number_bits x.1 x.2 := by kernel_rfl
theorem Sf88_largeint_number_bits : SoundF Try.prog 88 ⟨(.pair (.agg (.pair .sl .bool)) (.int .i64)), .sl, fun x => f88_largeint_number_bits x.1 x.2⟩ :=
  soundF_of Cf88_largeint_number_bits_ok Try.func88 (by kernel_rfl) (by kernel_rfl) Ef88_largeint_number_bits
noncomputable def Cf65_largeint_logic : Ctx := mkC Try.prog tys zeros eqs [(48, ⟨(.agg (.pair .sl .bool)), (.tup (.pair (.agg (.pair .bool .str)) (.int .i64))), fun x => f48_largeint_told x⟩), (52, ⟨(.pair (.agg (.pair .bool .str)) (.agg (.pair .bool .str))), (.tup (.pair (.agg (.pair .sl .bool)) (.pair (.agg (.pair .sl .bool)) (.int .i64)))), fun x => f52_largeint_two x.1 x.2⟩), (88, ⟨(.pair (.agg (.pair .sl .bool)) (.int .i64)), .sl, fun x => f88_largeint_number_bits x.1 x.2⟩), (89, ⟨.sl, (.tup .unit), fun x => f89_largeint_nat_turn x⟩)] [(66, ⟨(.pair (.int .u32) (.int .u32)), (.int .u32), fun x => Gf66_largeint_And_1 x.1 x.2⟩), (68, ⟨(.pair (.int .u32) (.int .u32)), (.int .u32), fun x => Gf68_largeint_Or_1 x.1 x.2⟩), (69, ⟨(.pair (.int .u32) (.int .u32)), (.int .u32), fun x => Gf69_largeint_Xor_1 x.1 x.2⟩)]
/-- palaverlargeint.logic -/
noncomputable def f65_largeint_logic (x0 : (Bool × ByteArray)) (x1 : (Bool × ByteArray)) (x2 : Value) : M ((Bool × ByteArray) × Int) :=
  bnd (newC 23 [.bool x0.1, .string x0.2]) fun (p1 : Addr) =>
  bnd (newC 23 [.bool x1.1, .string x1.2]) fun (p2 : Addr) =>
  bnd (newC 23 [.bool false, .string (ByteArray.mk #[])]) fun (p3 : Addr) =>
  bnd (ld (.agg (.pair .bool .str)) p1) fun (v4 : (Bool × ByteArray)) =>
  bnd (ld (.agg (.pair .bool .str)) p2) fun (v5 : (Bool × ByteArray)) =>
  bnd (f52_largeint_two v4 v5) fun (r6 : ((Sl × Bool) × ((Sl × Bool) × Int))) =>
  bnd (newC 52 [.slice none 0 0, .bool false]) fun (p7 : Addr) =>
  bnd (newC 52 [.slice none 0 0, .bool false]) fun (p8 : Addr) =>
  bnd (wrs p7 0 [.slice r6.1.1.a r6.1.1.len r6.1.1.cap, .bool r6.1.2]) fun _ =>
  bnd (wrs p8 0 [.slice r6.2.1.1.a r6.2.1.1.len r6.2.1.1.cap, .bool r6.2.1.2]) fun _ =>
  cnd (r6.2.2 != (0 : Int)) (
  bnd (wrs p3 0 [.bool false, .string (ByteArray.mk #[])]) fun _ =>
  bnd (ld (.agg (.pair .bool .str)) p3) fun (v9 : (Bool × ByteArray)) =>
  ret (v9, r6.2.2)) (
  bnd (ld .sl (Addr.add p7 0)) fun (v10 : Sl) =>
  bnd (ld .sl (Addr.add p8 0)) fun (v11 : Sl) =>
  bnd (
  bnd (ordM 65 5 (regionIn 5 Try.f65)) fun (o13 : List Nat) =>
  bnd (ld (.agg (.pair .sl .bool)) p7) fun (v14 : (Sl × Bool)) =>
  bnd (ld (.agg (.pair .sl .bool)) p8) fun (v15 : (Sl × Bool)) =>
  bnd (f88_largeint_number_bits v14 (IntKind.wrap .i64 ((maxI (v10.len : Int) (v11.len : Int)) + (1 : Int)))) fun (r16 : Sl) =>
  bnd (
  bnd (chk (.agg (.pair .sl .bool)) p8 v15) fun _ =>
  ret ()) fun _ =>
  bnd (f88_largeint_number_bits v15 (IntKind.wrap .i64 ((maxI (v10.len : Int) (v11.len : Int)) + (1 : Int)))) fun (r17 : Sl) =>
  bnd (ret ()) fun _ =>
  ret (r16, r17)) fun (s12 : (Sl × Sl)) =>
  bnd (runV Try.prog .sl (Instr.makeSlice 50 (.int .i64 (IntKind.wrap .i64 ((maxI (v10.len : Int) (v11.len : Int)) + (1 : Int)))) (.int .i64 (IntKind.wrap .i64 ((maxI (v10.len : Int) (v11.len : Int)) + (1 : Int)))))) fun (v18 : Sl) =>
  loopM (fun (s19 : Int) =>
  cnd (decide (s19 < (v18.len : Int))) (
  bnd (
  bnd (ordM 65 10 (regionIn 10 Try.f65)) fun (o21 : List Nat) =>
  bnd (ix 1 s12.1 s19) fun (p22 : Addr) =>
  bnd (ld (.int .u32) p22) fun (v23 : Int) =>
  bnd (ix 1 s12.2 s19) fun (p24 : Addr) =>
  bnd (ld (.int .u32) p24) fun (v25 : Int) =>
  bnd (callV Cf65_largeint_logic (.int .u32) x2 [⟨(.int .u32), v23⟩, ⟨(.int .u32), v25⟩]) fun (r26 : Int) =>
  bnd (ret ()) fun _ =>
  bnd (ix 1 v18 s19) fun (p27 : Addr) =>
  bnd (wrs p27 0 [.int .u32 r26]) fun _ =>
  bnd (ret ()) fun _ =>
  ret ()) fun (s20 : Unit) =>
  ret (Sum.inl (IntKind.wrap .i64 (s19 + (1 : Int))))) (
  bnd (
  bnd (ix 1 v18 (IntKind.wrap .i64 ((IntKind.wrap .i64 ((maxI (v10.len : Int) (v11.len : Int)) + (1 : Int))) - (1 : Int)))) fun (p28 : Addr) =>
  bnd (ld (.int .u32) p28) fun (v29 : Int) =>
  bnd (
  cnd ((shrI .u32 v29 31) == (1 : Int)) (
  bnd (f89_largeint_nat_turn v18) fun (r31 : Unit) =>
  ret ()) (
  ret ())) fun (s30 : Unit) =>
  bnd (f48_largeint_told (v18, ((shrI .u32 v29 31) == (1 : Int)))) fun (r32 : ((Bool × ByteArray) × Int)) =>
  bnd (wrs p3 0 [.bool r32.1.1, .string r32.1.2]) fun _ =>
  bnd (ld (.agg (.pair .bool .str)) p3) fun (v33 : (Bool × ByteArray)) =>
  ret (v33, r32.2)) fun r34 =>
  ret (Sum.inr r34))) (0 : Int))
noncomputable def Af65_largeint_logic : Ann := (.two .nil (.two .nil (.two (.two .nil (.two (.two .nil .nil) .nil)) (.two .nil (.two (.join [(12, .sl), (13, .sl)] [36, 37, 38, 39, 40, 41] false (.ord 65 [(0, 254), (0, 253), (3, 248), (0, 247), (0, 239), (28, 199), (39, 187), (127, 95)] (.o 0 (.o 1 (.o 3 (.o 4 (.o 2 (.o 5 (.o 6 (.o 7 .done)))))))))) (.two .nil (.two (.two .nil (.one (.loop [(46, (.int .i64))] [15, 47, 48, 49, 50, 51, 52, 53, 54, 55, 56, 57, 58, 59, 60, 61, 62] (.two .nil (.two (.two .nil .nil) (.two (.one (.two .nil (.join [] [49, 50, 51, 52, 53, 54, 55, 56, 57, 58, 59, 60, 61] false (.ord 65 [(0, 16382), (0, 16381), (0, 16379), (0, 16375), (0, 16367), (24, 16327), (32, 16287), (0, 16255), (0, 16127), (384, 15487), (512, 14847), (1092, 13243), (4095, 12284), (8191, 2047)] (.o 0 (.o 1 (.o 2 (.o 3 (.o 4 (.o 5 (.o 6 (.o 7 (.o 8 (.o 9 (.o 10 (.o 11 (.o 12 (.o 13 .done)))))))))))))))))) .nil)))))) (.two .nil (.two (.two .nil (.join [] [71, 72] false (.two .nil .nil))) (.two .nil .nil))))))))))
theorem Cf65_largeint_logic_ok : Cf65_largeint_logic.Ok := mkC_ok mixed tysOk zerosOk eqsOk ⟨Sf48_largeint_told, Sf52_largeint_two, Sf88_largeint_number_bits, Sf89_largeint_nat_turn, trivial⟩ ⟨Pf66_largeint_And_1, Pf68_largeint_Or_1, Pf69_largeint_Xor_1, trivial⟩
theorem Ef65_largeint_logic (x : ((Bool × ByteArray) × ((Bool × ByteArray) × Value))) : evF Cf65_largeint_logic Try.f65 79 (.pair (.agg (.pair .bool .str)) (.pair (.agg (.pair .bool .str)) .val)) (.tup (.pair (.agg (.pair .bool .str)) (.int .i64))) Af65_largeint_logic x = f65_largeint_logic x.1 x.2.1 x.2.2 := by kernel_rfl
theorem Sf65_largeint_logic : SoundF Try.prog 65 ⟨(.pair (.agg (.pair .bool .str)) (.pair (.agg (.pair .bool .str)) .val)), (.tup (.pair (.agg (.pair .bool .str)) (.int .i64))), fun x => f65_largeint_logic x.1 x.2.1 x.2.2⟩ :=
  soundF_of Cf65_largeint_logic_ok Try.func65 (by kernel_rfl) (by kernel_rfl) Ef65_largeint_logic
noncomputable def Cf24_largeint_And : Ctx := mkC Try.prog tys zeros eqs [(65, ⟨(.pair (.agg (.pair .bool .str)) (.pair (.agg (.pair .bool .str)) .val)), (.tup (.pair (.agg (.pair .bool .str)) (.int .i64))), fun x => f65_largeint_logic x.1 x.2.1 x.2.2⟩)] []
/-- palaverlargeint.And -/
noncomputable def f24_largeint_And (x0 : (Bool × ByteArray)) (x1 : (Bool × ByteArray)) : M ((Bool × ByteArray) × Int) :=
  bnd (newC 23 [.bool x0.1, .string x0.2]) fun (p1 : Addr) =>
  bnd (newC 23 [.bool x1.1, .string x1.2]) fun (p2 : Addr) =>
  bnd (newC 23 [.bool false, .string (ByteArray.mk #[])]) fun (p3 : Addr) =>
  bnd (ld (.agg (.pair .bool .str)) p1) fun (v4 : (Bool × ByteArray)) =>
  bnd (ld (.agg (.pair .bool .str)) p2) fun (v5 : (Bool × ByteArray)) =>
  bnd (f65_largeint_logic v4 v5 (Value.func (.func 66) #[] #[])) fun (r6 : ((Bool × ByteArray) × Int)) =>
  bnd (wrs p3 0 [.bool r6.1.1, .string r6.1.2]) fun _ =>
  bnd (ld (.agg (.pair .bool .str)) p3) fun (v7 : (Bool × ByteArray)) =>
  ret (v7, r6.2)
noncomputable def Af24_largeint_And : Ann := (.two .nil (.two .nil .nil))
theorem Cf24_largeint_And_ok : Cf24_largeint_And.Ok := mkC_ok mixed tysOk zerosOk eqsOk ⟨Sf65_largeint_logic, trivial⟩ trivial
theorem Ef24_largeint_And (x : ((Bool × ByteArray) × (Bool × ByteArray))) : evF Cf24_largeint_And Try.f24 11 (.pair (.agg (.pair .bool .str)) (.agg (.pair .bool .str))) (.tup (.pair (.agg (.pair .bool .str)) (.int .i64))) Af24_largeint_And x = f24_largeint_And x.1 x.2 := by kernel_rfl
theorem Sf24_largeint_And : SoundF Try.prog 24 ⟨(.pair (.agg (.pair .bool .str)) (.agg (.pair .bool .str))), (.tup (.pair (.agg (.pair .bool .str)) (.int .i64))), fun x => f24_largeint_And x.1 x.2⟩ :=
  soundF_of Cf24_largeint_And_ok Try.func24 (by kernel_rfl) (by kernel_rfl) Ef24_largeint_And
noncomputable def Cf30_largeint_Shift : Ctx := mkC Try.prog tys zeros eqs [(34, ⟨(.agg (.pair .bool .str)), (.int .i64), fun x => f34_largeint_Check x⟩), (48, ⟨(.agg (.pair .sl .bool)), (.tup (.pair (.agg (.pair .bool .str)) (.int .i64))), fun x => f48_largeint_told x⟩), (49, ⟨(.agg (.pair .bool .str)), (.agg (.pair .sl .bool)), fun x => f49_largeint_of x⟩), (70, ⟨(.pair .sl (.int .u64)), .sl, fun x => f70_largeint_nat_left x.1 x.2⟩), (71, ⟨(.pair .sl (.int .u64)), (.tup (.pair .sl .bool)), fun x => f71_largeint_nat_right x.1 x.2⟩), (72, ⟨(.pair .sl .sl), .sl, fun x => f72_largeint_nat_add x.1 x.2⟩)] []
/-- palaverlargeint.Shift -/
noncomputable def f30_largeint_Shift (x0 : (Bool × ByteArray)) (x1 : Int) : M ((Bool × ByteArray) × Int) :=
  bnd (newC 23 [.bool x0.1, .string x0.2]) fun (p1 : Addr) =>
  bnd (newC 23 [.bool false, .string (ByteArray.mk #[])]) fun (p2 : Addr) =>
  bnd (ld (.agg (.pair .bool .str)) p1) fun (v3 : (Bool × ByteArray)) =>
  bnd (f34_largeint_Check v3) fun (r4 : Int) =>
  cnd (r4 != (0 : Int)) (
  bnd (wrs p2 0 [.bool false, .string (ByteArray.mk #[])]) fun _ =>
  bnd (ld (.agg (.pair .bool .str)) p2) fun (v5 : (Bool × ByteArray)) =>
  ret (v5, r4)) (
  bnd (ld (.agg (.pair .bool .str)) p1) fun (v6 : (Bool × ByteArray)) =>
  bnd (f49_largeint_of v6) fun (r7 : (Sl × Bool)) =>
  bnd (newC 52 [.slice none 0 0, .bool false]) fun (p8 : Addr) =>
  bnd (wrs p8 0 [.slice r7.1.a r7.1.len r7.1.cap, .bool r7.2]) fun _ =>
  cnd (cond (decide (x1 < (-32768 : Int))) true (decide (x1 > (32768 : Int)))) (
  bnd (wrs p2 0 [.bool false, .string (ByteArray.mk #[])]) fun _ =>
  bnd (ld (.agg (.pair .bool .str)) p2) fun (v9 : (Bool × ByteArray)) =>
  ret (v9, (91 : Int))) (
  cnd (decide (x1 ≥ (0 : Int))) (
  bnd (
  bnd (ordM 30 8 (regionIn 8 Try.f30)) fun (o11 : List Nat) =>
  bnd (ld .sl (Addr.add p8 0)) fun (v12 : Sl) =>
  bnd (ld .bool (Addr.add p8 1)) fun (v13 : Bool) =>
  bnd (f70_largeint_nat_left v12 (IntKind.wrap .u64 x1)) fun (r14 : Sl) =>
  bnd (
  bnd (chk .bool (Addr.add p8 1) v13) fun _ =>
  ret ()) fun _ =>
  bnd (f48_largeint_told (r14, v13)) fun (r15 : ((Bool × ByteArray) × Int)) =>
  bnd (
  bnd (chk .bool (Addr.add p8 1) v13) fun _ =>
  ret ()) fun _ =>
  bnd (wrs p2 0 [.bool r15.1.1, .string r15.1.2]) fun _ =>
  bnd (ret ()) fun _ =>
  ret r15.2) fun (s10 : Int) =>
  bnd (ld (.agg (.pair .bool .str)) p2) fun (v16 : (Bool × ByteArray)) =>
  ret (v16, s10)) (
  bnd (ld .sl (Addr.add p8 0)) fun (v17 : Sl) =>
  bnd (f71_largeint_nat_right v17 (IntKind.wrap .u64 (IntKind.wrap .i64 (0 - x1)))) fun (r18 : (Sl × Bool)) =>
  bnd (
  cnd r18.2 (
  bnd (ld .bool (Addr.add p8 1)) fun (v19 : Bool) =>
  ret v19) (
  ret false)) fun (b20 : Bool) =>
  bnd (
  cnd b20 (
  bnd (runV Try.prog .sl (Instr.buildSlice 50 1 #[(0, .int .u32 (1 : Int))])) fun (v22 : Sl) =>
  bnd (f72_largeint_nat_add r18.1 v22) fun (r23 : Sl) =>
  ret r23) (
  ret r18.1)) fun (s21 : Sl) =>
  bnd (ld .bool (Addr.add p8 1)) fun (v24 : Bool) =>
  bnd (f48_largeint_told (s21, v24)) fun (r25 : ((Bool × ByteArray) × Int)) =>
  bnd (wrs p2 0 [.bool r25.1.1, .string r25.1.2]) fun _ =>
  bnd (ld (.agg (.pair .bool .str)) p2) fun (v26 : (Bool × ByteArray)) =>
  ret (v26, r25.2))))
noncomputable def Af30_largeint_Shift : Ann := (.two .nil (.two (.two .nil (.two .nil (.two (.two .nil .nil) .nil))) (.two .nil (.two (.one (.two .nil (.two (.two .nil .nil) (.two .nil (.two (.two (.join [(5, (.int .i64))] [29, 30, 31, 32, 33, 34, 35, 36, 37, 38, 39] false (.ord 30 [(0, 8190), (1, 8188), (0, 8187), (4, 8179), (10, 8165), (0, 8159), (32, 8095), (80, 7983), (144, 7807), (256, 7423), (256, 6911), (2047, 5631), (4095, 3071)] (.o 0 (.o 1 (.o 2 (.o 3 (.o 5 (.o 6 (.o 4 (.o 7 (.o 8 (.o 9 (.o 10 (.o 11 (.o 12 .done))))))))))))))) .nil) .nil))))) (.two .nil (.two (.two .nil (.join [(8, .sl)] [54, 55, 56] false (.two .nil .nil))) (.two .nil .nil)))))))
theorem Cf30_largeint_Shift_ok : Cf30_largeint_Shift.Ok := mkC_ok mixed tysOk zerosOk eqsOk ⟨Sf34_largeint_Check, Sf48_largeint_told, Sf49_largeint_of, Sf70_largeint_nat_left, Sf71_largeint_nat_right, Sf72_largeint_nat_add, trivial⟩ trivial
theorem Ef30_largeint_Shift (x : ((Bool × ByteArray) × Int)) : evF Cf30_largeint_Shift Try.f30 64 (.pair (.agg (.pair .bool .str)) (.int .i64)) (.tup (.pair (.agg (.pair .bool .str)) (.int .i64))) Af30_largeint_Shift x = f30_largeint_Shift x.1 x.2 := by kernel_rfl
theorem Sf30_largeint_Shift : SoundF Try.prog 30 ⟨(.pair (.agg (.pair .bool .str)) (.int .i64)), (.tup (.pair (.agg (.pair .bool .str)) (.int .i64))), fun x => f30_largeint_Shift x.1 x.2⟩ :=
  soundF_of Cf30_largeint_Shift_ok Try.func30 (by kernel_rfl) (by kernel_rfl) Ef30_largeint_Shift
noncomputable def Cf18_largeint_Gcd : Ctx := mkC Try.prog tys zeros eqs [(48, ⟨(.agg (.pair .sl .bool)), (.tup (.pair (.agg (.pair .bool .str)) (.int .i64))), fun x => f48_largeint_told x⟩), (52, ⟨(.pair (.agg (.pair .bool .str)) (.agg (.pair .bool .str))), (.tup (.pair (.agg (.pair .sl .bool)) (.pair (.agg (.pair .sl .bool)) (.int .i64)))), fun x => f52_largeint_two x.1 x.2⟩), (53, ⟨(.pair .sl .sl), (.tup (.pair .sl .sl)), fun x => f53_largeint_nat_div x.1 x.2⟩)] []
/-- palaverlargeint.Gcd -/
noncomputable def f18_largeint_Gcd (x0 : (Bool × ByteArray)) (x1 : (Bool × ByteArray)) : M ((Bool × ByteArray) × Int) :=
  bnd (newC 23 [.bool x0.1, .string x0.2]) fun (p1 : Addr) =>
  bnd (newC 23 [.bool x1.1, .string x1.2]) fun (p2 : Addr) =>
  bnd (newC 23 [.bool false, .string (ByteArray.mk #[])]) fun (p3 : Addr) =>
  bnd (ld (.agg (.pair .bool .str)) p1) fun (v4 : (Bool × ByteArray)) =>
  bnd (ld (.agg (.pair .bool .str)) p2) fun (v5 : (Bool × ByteArray)) =>
  bnd (f52_largeint_two v4 v5) fun (r6 : ((Sl × Bool) × ((Sl × Bool) × Int))) =>
  bnd (newC 52 [.slice none 0 0, .bool false]) fun (p7 : Addr) =>
  bnd (newC 52 [.slice none 0 0, .bool false]) fun (p8 : Addr) =>
  bnd (wrs p7 0 [.slice r6.1.1.a r6.1.1.len r6.1.1.cap, .bool r6.1.2]) fun _ =>
  bnd (wrs p8 0 [.slice r6.2.1.1.a r6.2.1.1.len r6.2.1.1.cap, .bool r6.2.1.2]) fun _ =>
  cnd (r6.2.2 != (0 : Int)) (
  bnd (wrs p3 0 [.bool false, .string (ByteArray.mk #[])]) fun _ =>
  bnd (ld (.agg (.pair .bool .str)) p3) fun (v9 : (Bool × ByteArray)) =>
  ret (v9, r6.2.2)) (
  bnd drawM fun _ =>
  bnd (ld .sl (Addr.add p7 0)) fun (v10 : Sl) =>
  bnd (ld .sl (Addr.add p8 0)) fun (v11 : Sl) =>
  loopM (fun (s12 : (Sl × Sl)) =>
  cnd (decide ((s12.2.len : Int) > (0 : Int))) (
  bnd (f53_largeint_nat_div s12.1 s12.2) fun (r13 : (Sl × Sl)) =>
  ret (Sum.inl (s12.2, r13.2))) (
  bnd (
  bnd (f48_largeint_told (s12.1, false)) fun (r14 : ((Bool × ByteArray) × Int)) =>
  bnd (wrs p3 0 [.bool r14.1.1, .string r14.1.2]) fun _ =>
  bnd (ld (.agg (.pair .bool .str)) p3) fun (v15 : (Bool × ByteArray)) =>
  ret (v15, r14.2)) fun r16 =>
  ret (Sum.inr r16))) (v10, v11))
noncomputable def Af18_largeint_Gcd : Ann := (.two .nil (.two .nil (.two (.two .nil (.two (.two .nil .nil) .nil)) (.two .nil (.two (.one (.loop [(9, .sl), (10, .sl)] [11, 12, 28, 29, 30, 31, 32, 33, 34, 35, 36, 37, 38] (.two (.two .nil (.two .nil .nil)) (.one (.two .nil .nil))))) (.two .nil .nil))))))
theorem Cf18_largeint_Gcd_ok : Cf18_largeint_Gcd.Ok := mkC_ok mixed tysOk zerosOk eqsOk ⟨Sf48_largeint_told, Sf52_largeint_two, Sf53_largeint_nat_div, trivial⟩ trivial
theorem Ef18_largeint_Gcd (x : ((Bool × ByteArray) × (Bool × ByteArray))) : evF Cf18_largeint_Gcd Try.f18 44 (.pair (.agg (.pair .bool .str)) (.agg (.pair .bool .str))) (.tup (.pair (.agg (.pair .bool .str)) (.int .i64))) Af18_largeint_Gcd x = f18_largeint_Gcd x.1 x.2 := by kernel_rfl
theorem Sf18_largeint_Gcd : SoundF Try.prog 18 ⟨(.pair (.agg (.pair .bool .str)) (.agg (.pair .bool .str))), (.tup (.pair (.agg (.pair .bool .str)) (.int .i64))), fun x => f18_largeint_Gcd x.1 x.2⟩ :=
  soundF_of Cf18_largeint_Gcd_ok Try.func18 (by kernel_rfl) (by kernel_rfl) Ef18_largeint_Gcd
noncomputable def Cf63_slices_Reversebyte_byte : Ctx := mkC Try.prog tys zeros eqs [] []
/-- slices.Reversebytebyte -/
noncomputable def f63_slices_Reversebyte_byte (x0 : Sl) : M Unit :=
  loopM (fun (s1 : (Int × Int)) =>
  cnd (decide (s1.1 < s1.2)) (
  bnd (
  bnd (ordM 63 3 (regionIn 3 Try.f63)) fun (o3 : List Nat) =>
  bnd (ix 1 x0 s1.2) fun (p4 : Addr) =>
  bnd (ld (.int .u8) p4) fun (v5 : Int) =>
  bnd (ix 1 x0 s1.1) fun (p6 : Addr) =>
  bnd (ld (.int .u8) p6) fun (v7 : Int) =>
  bnd (ix 1 x0 s1.1) fun (p8 : Addr) =>
  bnd (wrs p8 0 [.int .u8 v5]) fun _ =>
  bnd (ret ()) fun _ =>
  bnd (ix 1 x0 s1.2) fun (p9 : Addr) =>
  bnd (wrs p9 0 [.int .u8 v7]) fun _ =>
  bnd (ret ()) fun _ =>
  ret ()) fun (s2 : Unit) =>
  ret (Sum.inl ((IntKind.wrap .i64 (s1.1 + (1 : Int))), (IntKind.wrap .i64 (s1.2 - (1 : Int)))))) (
  ret (Sum.inr ()))) ((0 : Int), (IntKind.wrap .i64 ((x0.len : Int) - (1 : Int))))
noncomputable def Af63_slices_Reversebyte_byte : Ann := (.two .nil (.one (.loop [(2, (.int .i64)), (3, (.int .i64))] [7, 8, 9, 10, 11, 12, 13, 14, 15, 16, 17, 18, 19, 20, 21, 22, 23, 24, 25, 26, 27] (.two (.two .nil (.two .nil .nil)) (.two (.one (.join [] [14, 15, 16, 17, 18, 19, 20, 21, 22, 23, 24, 25, 26, 27] false (.ord 63 [(0, 65534), (0, 65533), (0, 65531), (0, 65527), (0, 65519), (0, 65503), (48, 65423), (64, 65343), (0, 65279), (0, 65023), (768, 63743), (1024, 62463), (2291, 61436), (6387, 53119), (16383, 49139), (32767, 14335)] (.o 0 (.o 1 (.o 2 (.o 3 (.o 4 (.o 5 (.o 6 (.o 7 (.o 8 (.o 9 (.o 10 (.o 11 (.o 12 (.o 13 (.o 14 (.o 15 .done))))))))))))))))))) .nil)))))
theorem Cf63_slices_Reversebyte_byte_ok : Cf63_slices_Reversebyte_byte.Ok := mkC_ok mixed tysOk zerosOk eqsOk trivial trivial
theorem Ef63_slices_Reversebyte_byte (x : Sl) : evF Cf63_slices_Reversebyte_byte Try.f63 28 .sl (.tup .unit) Af63_slices_Reversebyte_byte x = f63_slices_Reversebyte_byte x := by kernel_rfl
theorem Sf63_slices_Reversebyte_byte : SoundF Try.prog 63 ⟨.sl, (.tup .unit), fun x => f63_slices_Reversebyte_byte x⟩ :=
  soundF_of Cf63_slices_Reversebyte_byte_ok Try.func63 (by kernel_rfl) (by kernel_rfl) Ef63_slices_Reversebyte_byte
noncomputable def Cf22_largeint_Text : Ctx := mkC Try.prog tys zeros eqs [(34, ⟨(.agg (.pair .bool .str)), (.int .i64), fun x => f34_largeint_Check x⟩), (49, ⟨(.agg (.pair .bool .str)), (.agg (.pair .sl .bool)), fun x => f49_largeint_of x⟩), (62, ⟨(.pair .sl (.int .u32)), (.tup (.pair .sl (.int .u32))), fun x => f62_largeint_nat_short x.1 x.2⟩), (63, ⟨.sl, (.tup .unit), fun x => f63_slices_Reversebyte_byte x⟩)] []
/-- palaverlargeint.Text -/
noncomputable def f22_largeint_Text (x0 : (Bool × ByteArray)) (x1 : Int) : M (ByteArray × Int) :=
  bnd (newC 23 [.bool x0.1, .string x0.2]) fun (p1 : Addr) =>
  bnd (ld (.agg (.pair .bool .str)) p1) fun (v2 : (Bool × ByteArray)) =>
  bnd (f34_largeint_Check v2) fun (r3 : Int) =>
  cnd (r3 != (0 : Int)) (
  ret ((ByteArray.mk #[]), r3)) (
  cnd (cond (decide (x1 < (2 : Int))) true (decide (x1 > (36 : Int)))) (
  ret ((ByteArray.mk #[]), (1 : Int))) (
  bnd (ld (.agg (.pair .bool .str)) p1) fun (v4 : (Bool × ByteArray)) =>
  bnd (f49_largeint_of v4) fun (r5 : (Sl × Bool)) =>
  bnd (newC 52 [.slice none 0 0, .bool false]) fun (p6 : Addr) =>
  bnd (wrs p6 0 [.slice r5.1.a r5.1.len r5.1.cap, .bool r5.2]) fun _ =>
  loopM (fun (s7 : Sl) =>
  bnd (ld .sl (Addr.add p6 0)) fun (v8 : Sl) =>
  cnd (decide ((v8.len : Int) > (0 : Int))) (
  bnd (ld .sl (Addr.add p6 0)) fun (v9 : Sl) =>
  bnd (f62_largeint_nat_short v9 (IntKind.wrap .u32 x1)) fun (r10 : (Sl × Int)) =>
  bnd (wrs (Addr.add p6 0) 0 [.slice r10.1.a r10.1.len r10.1.cap]) fun _ =>
  bnd (ixS (ByteArray.mk #[48, 49, 50, 51, 52, 53, 54, 55, 56, 57, 65, 66, 67, 68, 69, 70, 71, 72, 73, 74, 75, 76, 77, 78, 79, 80, 81, 82, 83, 84, 85, 86, 87, 88, 89, 90]) r10.2) fun (v11 : Int) =>
  bnd (runV Try.prog .sl (Instr.buildSlice 61 1 #[(0, .int .u8 v11)])) fun (v12 : Sl) =>
  bnd (runV Try.prog .sl (Builtin.append_ #[61, 61] 61 #[.slice s7.a s7.len s7.cap, .slice v12.a v12.len v12.cap])) fun (v13 : Sl) =>
  ret (Sum.inl v13)) (
  bnd (
  cnd ((s7.len : Int) == (0 : Int)) (
  ret ((ByteArray.mk #[48]), (0 : Int))) (
  bnd (ld .bool (Addr.add p6 1)) fun (v14 : Bool) =>
  bnd (
  cnd v14 (
  bnd (runV Try.prog .sl (Instr.buildSlice 61 1 #[(0, .int .u8 (45 : Int))])) fun (v16 : Sl) =>
  bnd (runV Try.prog .sl (Builtin.append_ #[61, 61] 61 #[.slice s7.a s7.len s7.cap, .slice v16.a v16.len v16.cap])) fun (v17 : Sl) =>
  ret v17) (
  ret s7)) fun (s15 : Sl) =>
  bnd (f63_slices_Reversebyte_byte s15) fun (r18 : Unit) =>
  bnd (runV Try.prog .str (convert 61 9 (.slice s15.a s15.len s15.cap))) fun (v19 : ByteArray) =>
  ret (v19, (0 : Int)))) fun r20 =>
  ret (Sum.inr r20))) (Sl.mk none 0 0)))
noncomputable def Af22_largeint_Text : Ann := (.two .nil (.two (.two .nil (.two .nil (.two (.two .nil .nil) .nil))) (.two (.two .nil (.two (.two .nil .nil) .nil)) (.two .nil (.two .nil (.two (.one (.loop [(8, .sl)] [9, 23, 24, 25, 26, 27, 28, 29, 30, 31, 32, 33, 34, 35, 36, 37, 38, 39, 40] (.two (.two .nil (.two .nil .nil)) (.one (.two .nil (.two .nil .nil)))))) (.two (.two .nil (.two (.two .nil .nil) .nil)) (.two (.two .nil (.join [(8, .sl)] [46, 47, 48] false (.two .nil .nil))) (.two .nil (.two .nil .nil))))))))))
theorem Cf22_largeint_Text_ok : Cf22_largeint_Text.Ok := mkC_ok mixed tysOk zerosOk eqsOk ⟨Sf34_largeint_Check, Sf49_largeint_of, Sf62_largeint_nat_short, Sf63_slices_Reversebyte_byte, trivial⟩ trivial
theorem Ef22_largeint_Text (x : ((Bool × ByteArray) × Int)) : evF Cf22_largeint_Text Try.f22 53 (.pair (.agg (.pair .bool .str)) (.int .i64)) (.tup (.pair .str (.int .i64))) Af22_largeint_Text x = f22_largeint_Text x.1 x.2 := by kernel_rfl
theorem Sf22_largeint_Text : SoundF Try.prog 22 ⟨(.pair (.agg (.pair .bool .str)) (.int .i64)), (.tup (.pair .str (.int .i64))), fun x => f22_largeint_Text x.1 x.2⟩ :=
  soundF_of Cf22_largeint_Text_ok Try.func22 (by kernel_rfl) (by kernel_rfl) Ef22_largeint_Text
noncomputable def Cf60_slices_Indexbyte_byte : Ctx := mkC Try.prog tys zeros eqs [] []
/-- slices.Indexbytebyte -/
noncomputable def f60_slices_Indexbyte_byte (x0 : Sl) (x1 : Int) : M Int :=
  loopM (fun (s1 : Int) =>
  cnd (decide (s1 < (x0.len : Int))) (
  bnd (ix 1 x0 s1) fun (p2 : Addr) =>
  bnd (ld (.int .u8) p2) fun (v3 : Int) =>
  cnd (x1 == v3) (
  ret (Sum.inr s1)) (
  ret (Sum.inl (IntKind.wrap .i64 (s1 + (1 : Int)))))) (
  ret (Sum.inr (-1 : Int)))) (0 : Int)
noncomputable def Af60_slices_Indexbyte_byte : Ann := (.two .nil (.two (.two .nil (.one (.loop [(8, (.int .i64))] [4, 5, 9, 10, 11, 12, 13, 14, 15, 16, 17, 18] (.two .nil (.two (.two .nil .nil) (.two (.one (.two .nil (.two .nil (.two (.two .nil .nil) .nil)))) .nil)))))) (.two .nil .nil)))
theorem Cf60_slices_Indexbyte_byte_ok : Cf60_slices_Indexbyte_byte.Ok := mkC_ok mixed tysOk zerosOk eqsOk trivial trivial
theorem Ef60_slices_Indexbyte_byte (x : (Sl × Int)) : evF Cf60_slices_Indexbyte_byte Try.f60 19 (.pair .sl (.int .u8)) (.int .i64) Af60_slices_Indexbyte_byte x = f60_slices_Indexbyte_byte x.1 x.2 := by kernel_rfl
theorem Sf60_slices_Indexbyte_byte : SoundF Try.prog 60 ⟨(.pair .sl (.int .u8)), (.int .i64), fun x => f60_slices_Indexbyte_byte x.1 x.2⟩ :=
  soundF_of Cf60_slices_Indexbyte_byte_ok Try.func60 (by kernel_rfl) (by kernel_rfl) Ef60_slices_Indexbyte_byte
noncomputable def Cf58_slices_Containsbyte_byte : Ctx := mkC Try.prog tys zeros eqs [(60, ⟨(.pair .sl (.int .u8)), (.int .i64), fun x => f60_slices_Indexbyte_byte x.1 x.2⟩)] []
/-- slices.Containsbytebyte -/
noncomputable def f58_slices_Containsbyte_byte (x0 : Sl) (x1 : Int) : M Bool :=
  bnd (f60_slices_Indexbyte_byte x0 x1) fun (r1 : Int) =>
  ret (decide (r1 ≥ (0 : Int)))
noncomputable def Af58_slices_Containsbyte_byte : Ann := (.two .nil (.two .nil .nil))
theorem Cf58_slices_Containsbyte_byte_ok : Cf58_slices_Containsbyte_byte.Ok := mkC_ok mixed tysOk zerosOk eqsOk ⟨Sf60_slices_Indexbyte_byte, trivial⟩ trivial
theorem Ef58_slices_Containsbyte_byte (x : (Sl × Int)) : evF Cf58_slices_Containsbyte_byte Try.f58 9 (.pair .sl (.int .u8)) .bool Af58_slices_Containsbyte_byte x = f58_slices_Containsbyte_byte x.1 x.2 := by kernel_rfl
theorem Sf58_slices_Containsbyte_byte : SoundF Try.prog 58 ⟨(.pair .sl (.int .u8)), .bool, fun x => f58_slices_Containsbyte_byte x.1 x.2⟩ :=
  soundF_of Cf58_slices_Containsbyte_byte_ok Try.func58 (by kernel_rfl) (by kernel_rfl) Ef58_slices_Containsbyte_byte
noncomputable def Cf59_largeint_nat_step : Ctx := mkC Try.prog tys zeros eqs [] []
/-- (palaverlargeint.nat).step -/
noncomputable def f59_largeint_nat_step (x0 : Sl) (x1 : Int) (x2 : Int) : M Sl :=
  loopM (fun (s1 : (Int × Int)) =>
  cnd (decide (s1.2 < (x0.len : Int))) (
  bnd (ix 1 x0 s1.2) fun (p2 : Addr) =>
  bnd (ld (.int .u32) p2) fun (v3 : Int) =>
  bnd (ix 1 x0 s1.2) fun (p4 : Addr) =>
  bnd (wrs p4 0 [.int .u32 (IntKind.wrap .u32 (IntKind.wrap .u64 ((IntKind.wrap .u64 ((IntKind.wrap .u64 v3) * (IntKind.wrap .u64 x1))) + s1.1)))]) fun _ =>
  ret (Sum.inl ((shrI .u64 (IntKind.wrap .u64 ((IntKind.wrap .u64 ((IntKind.wrap .u64 v3) * (IntKind.wrap .u64 x1))) + s1.1)) 32), (IntKind.wrap .i64 (s1.2 + (1 : Int)))))) (
  bnd (
  bnd (
  cnd (decide (s1.1 > (0 : Int))) (
  bnd (runV Try.prog .sl (Instr.buildSlice 50 1 #[(0, .int .u32 (IntKind.wrap .u32 s1.1))])) fun (v6 : Sl) =>
  bnd (runV Try.prog .sl (Builtin.append_ #[50, 50] 50 #[.slice x0.a x0.len x0.cap, .slice v6.a v6.len v6.cap])) fun (v7 : Sl) =>
  ret v7) (
  ret x0)) fun (s5 : Sl) =>
  ret s5) fun r8 =>
  ret (Sum.inr r8))) ((IntKind.wrap .u64 x2), (0 : Int))
noncomputable def Af59_largeint_nat_step : Ann := (.two .nil (.two .nil (.two (.two .nil (.one (.loop [(7, (.int .u64)), (15, (.int .i64))] [8, 9, 10, 16, 17, 18, 19, 20, 21, 22, 23, 24, 25, 26, 27, 28, 29, 30, 31, 32, 33, 34] (.two .nil (.two (.two .nil .nil) (.two (.one (.two .nil (.two .nil .nil))) .nil)))))) (.two (.two .nil (.join [(0, .sl)] [37, 38, 39, 40, 41] false (.two .nil .nil))) (.two .nil .nil)))))
theorem Cf59_largeint_nat_step_ok : Cf59_largeint_nat_step.Ok := mkC_ok mixed tysOk zerosOk eqsOk trivial trivial
theorem Ef59_largeint_nat_step (x : (Sl × (Int × Int))) : evF Cf59_largeint_nat_step Try.f59 43 (.pair .sl (.pair (.int .u32) (.int .u32))) .sl Af59_largeint_nat_step x = f59_largeint_nat_step x.1 x.2.1 x.2.2 := by kernel_rfl
theorem Sf59_largeint_nat_step : SoundF Try.prog 59 ⟨(.pair .sl (.pair (.int .u32) (.int .u32))), .sl, fun x => f59_largeint_nat_step x.1 x.2.1 x.2.2⟩ :=
  soundF_of Cf59_largeint_nat_step_ok Try.func59 (by kernel_rfl) (by kernel_rfl) Ef59_largeint_nat_step
noncomputable def Cf20_largeint_Parse : Ctx := mkC Try.prog tys zeros eqs [(48, ⟨(.agg (.pair .sl .bool)), (.tup (.pair (.agg (.pair .bool .str)) (.int .i64))), fun x => f48_largeint_told x⟩), (58, ⟨(.pair .sl (.int .u8)), .bool, fun x => f58_slices_Containsbyte_byte x.1 x.2⟩), (59, ⟨(.pair .sl (.pair (.int .u32) (.int .u32))), .sl, fun x => f59_largeint_nat_step x.1 x.2.1 x.2.2⟩), (60, ⟨(.pair .sl (.int .u8)), (.int .i64), fun x => f60_slices_Indexbyte_byte x.1 x.2⟩)] []
/-- palaverlargeint.Parse -/
noncomputable def f20_largeint_Parse (x0 : ByteArray) (x1 : Int) : M ((Bool × ByteArray) × Int) :=
  bnd (newC 23 [.bool false, .string (ByteArray.mk #[])]) fun (p1 : Addr) =>
  cnd (cond (decide (x1 < (2 : Int))) true (decide (x1 > (36 : Int)))) (
  bnd (wrs p1 0 [.bool false, .string (ByteArray.mk #[])]) fun _ =>
  bnd (ld (.agg (.pair .bool .str)) p1) fun (v2 : (Bool × ByteArray)) =>
  ret (v2, (1 : Int))) (
  bnd (
  cnd (decide ((ByteArray.size x0 : Int) > (0 : Int))) (
  bnd (ixS x0 (0 : Int)) fun (v3 : Int) =>
  ret (v3 == (45 : Int))) (
  ret false)) fun (b4 : Bool) =>
  bnd (
  cnd b4 (
  bnd (slcS x0 (some (1 : Int)) none) fun (v6 : ByteArray) =>
  ret v6) (
  ret x0)) fun (s5 : ByteArray) =>
  bnd (
  cnd (strEq s5 (ByteArray.mk #[])) (
  ret true) (
  bnd (ixS s5 (0 : Int)) fun (v7 : Int) =>
  ret (cond (v7 == (48 : Int)) (cond b4 true (!strEq s5 (ByteArray.mk #[48]))) false))) fun (b8 : Bool) =>
  cnd b8 (
  bnd (wrs p1 0 [.bool false, .string (ByteArray.mk #[])]) fun _ =>
  bnd (ld (.agg (.pair .bool .str)) p1) fun (v9 : (Bool × ByteArray)) =>
  ret (v9, (93 : Int))) (
  bnd (slcS (ByteArray.mk #[48, 49, 50, 51, 52, 53, 54, 55, 56, 57, 65, 66, 67, 68, 69, 70, 71, 72, 73, 74, 75, 76, 77, 78, 79, 80, 81, 82, 83, 84, 85, 86, 87, 88, 89, 90]) none (some x1)) fun (v10 : ByteArray) =>
  bnd (runV Try.prog .sl (convert 9 61 (.string v10))) fun (v11 : Sl) =>
  loopM (fun (s12 : Int) =>
  cnd (decide (s12 < (ByteArray.size s5 : Int))) (
  bnd (ixS s5 s12) fun (v13 : Int) =>
  bnd (f58_slices_Containsbyte_byte v11 v13) fun (r14 : Bool) =>
  cnd (!r14) (
  bnd (wrs p1 0 [.bool false, .string (ByteArray.mk #[])]) fun _ =>
  bnd (
  bnd (ld (.agg (.pair .bool .str)) p1) fun (v15 : (Bool × ByteArray)) =>
  ret (v15, (93 : Int))) fun r16 =>
  ret (Sum.inr r16)) (
  ret (Sum.inl (IntKind.wrap .i64 (s12 + (1 : Int)))))) (
  bnd (
  loopM (fun (s17 : (Sl × Int)) =>
  cnd (decide (s17.2 < (ByteArray.size s5 : Int))) (
  bnd (ixS s5 s17.2) fun (v18 : Int) =>
  bnd (f60_slices_Indexbyte_byte v11 v18) fun (r19 : Int) =>
  bnd (f59_largeint_nat_step s17.1 (IntKind.wrap .u32 x1) (IntKind.wrap .u32 r19)) fun (r20 : Sl) =>
  cnd (decide ((r20.len : Int) > (1024 : Int))) (
  bnd (wrs p1 0 [.bool false, .string (ByteArray.mk #[])]) fun _ =>
  bnd (
  bnd (ld (.agg (.pair .bool .str)) p1) fun (v21 : (Bool × ByteArray)) =>
  ret (v21, (92 : Int))) fun r22 =>
  ret (Sum.inr r22)) (
  ret (Sum.inl (r20, (IntKind.wrap .i64 (s17.2 + (1 : Int))))))) (
  bnd (
  bnd (f48_largeint_told (s17.1, b4)) fun (r23 : ((Bool × ByteArray) × Int)) =>
  bnd (wrs p1 0 [.bool r23.1.1, .string r23.1.2]) fun _ =>
  bnd (ld (.agg (.pair .bool .str)) p1) fun (v24 : (Bool × ByteArray)) =>
  ret (v24, r23.2)) fun r25 =>
  ret (Sum.inr r25))) ((Sl.mk none 0 0), (0 : Int))) fun r26 =>
  ret (Sum.inr r26))) (0 : Int)))
noncomputable def Af20_largeint_Parse : Ann := (.two .nil (.two (.two .nil (.two (.two .nil .nil) .nil)) (.two .nil (.two (.two .nil (.join [(0, .str)] [27, 28] false (.two .nil .nil))) (.two (.two .nil (.two (.two .nil .nil) .nil)) (.two .nil (.two (.two .nil (.one (.loop [(49, (.int .i64))] [5, 8, 50, 51, 52, 53, 54, 55, 56, 57, 58, 59] (.two .nil (.two (.two .nil .nil) (.two (.one (.two .nil (.two .nil (.two (.two .nil .nil) .nil)))) .nil)))))) (.two .nil (.two (.two .nil (.one (.loop [(9, .sl), (62, (.int .i64))] [5, 10, 63, 64, 65, 66, 67, 68, 69, 70, 71, 72, 73, 74, 75, 76, 77, 78, 79] (.two .nil (.two (.two .nil .nil) (.two (.one (.two .nil (.two .nil (.two .nil (.two (.two .nil .nil) .nil))))) .nil)))))) (.two .nil .nil))))))))))
theorem Cf20_largeint_Parse_ok : Cf20_largeint_Parse.Ok := mkC_ok mixed tysOk zerosOk eqsOk ⟨Sf48_largeint_told, Sf58_slices_Containsbyte_byte, Sf59_largeint_nat_step, Sf60_slices_Indexbyte_byte, trivial⟩ trivial
theorem Ef20_largeint_Parse (x : (ByteArray × Int)) : evF Cf20_largeint_Parse Try.f20 86 (.pair .str (.int .i64)) (.tup (.pair (.agg (.pair .bool .str)) (.int .i64))) Af20_largeint_Parse x = f20_largeint_Parse x.1 x.2 := by kernel_rfl
theorem Sf20_largeint_Parse : SoundF Try.prog 20 ⟨(.pair .str (.int .i64)), (.tup (.pair (.agg (.pair .bool .str)) (.int .i64))), fun x => f20_largeint_Parse x.1 x.2⟩ :=
  soundF_of Cf20_largeint_Parse_ok Try.func20 (by kernel_rfl) (by kernel_rfl) Ef20_largeint_Parse
noncomputable def Cf12_palaverlaw09_works : Ctx := mkC Try.prog tys zeros eqs [(14, ⟨(.pair (.agg (.pair .bool .str)) (.agg (.pair .bool .str))), (.tup (.pair (.agg (.pair .bool .str)) (.pair (.agg (.pair .bool .str)) (.int .i64)))), fun x => f14_largeint_Div x.1 x.2⟩), (16, ⟨(.pair (.agg (.pair .bool .str)) (.agg (.pair .bool .str))), (.tup (.pair (.agg (.pair .bool .str)) (.pair (.agg (.pair .bool .str)) (.int .i64)))), fun x => f16_largeint_Quo x.1 x.2⟩), (18, ⟨(.pair (.agg (.pair .bool .str)) (.agg (.pair .bool .str))), (.tup (.pair (.agg (.pair .bool .str)) (.int .i64))), fun x => f18_largeint_Gcd x.1 x.2⟩), (20, ⟨(.pair .str (.int .i64)), (.tup (.pair (.agg (.pair .bool .str)) (.int .i64))), fun x => f20_largeint_Parse x.1 x.2⟩), (22, ⟨(.pair (.agg (.pair .bool .str)) (.int .i64)), (.tup (.pair .str (.int .i64))), fun x => f22_largeint_Text x.1 x.2⟩), (24, ⟨(.pair (.agg (.pair .bool .str)) (.agg (.pair .bool .str))), (.tup (.pair (.agg (.pair .bool .str)) (.int .i64))), fun x => f24_largeint_And x.1 x.2⟩), (30, ⟨(.pair (.agg (.pair .bool .str)) (.int .i64)), (.tup (.pair (.agg (.pair .bool .str)) (.int .i64))), fun x => f30_largeint_Shift x.1 x.2⟩), (37, ⟨(.int .i64), (.agg (.pair .bool .str)), fun x => f37_largeint_Of x⟩)] []
/-- palaverpalaverlaw09.works -/
noncomputable def f12_palaverlaw09_works : M Bool :=
  bnd (f37_largeint_Of (-300 : Int)) fun (r1 : (Bool × ByteArray)) =>
  bnd (newC 23 [.bool false, .string (ByteArray.mk #[])]) fun (p2 : Addr) =>
  bnd (wrs p2 0 [.bool r1.1, .string r1.2]) fun _ =>
  bnd (f37_largeint_Of (-7 : Int)) fun (r3 : (Bool × ByteArray)) =>
  bnd (f37_largeint_Of (2 : Int)) fun (r4 : (Bool × ByteArray)) =>
  bnd (f14_largeint_Div r3 r4) fun (r5 : ((Bool × ByteArray) × ((Bool × ByteArray) × Int))) =>
  bnd (newC 23 [.bool false, .string (ByteArray.mk #[])]) fun (p6 : Addr) =>
  bnd (newC 23 [.bool false, .string (ByteArray.mk #[])]) fun (p7 : Addr) =>
  bnd (wrs p6 0 [.bool r5.1.1, .string r5.1.2]) fun _ =>
  bnd (wrs p7 0 [.bool r5.2.1.1, .string r5.2.1.2]) fun _ =>
  bnd (f37_largeint_Of (-7 : Int)) fun (r8 : (Bool × ByteArray)) =>
  bnd (f37_largeint_Of (2 : Int)) fun (r9 : (Bool × ByteArray)) =>
  bnd (f16_largeint_Quo r8 r9) fun (r10 : ((Bool × ByteArray) × ((Bool × ByteArray) × Int))) =>
  bnd (newC 23 [.bool false, .string (ByteArray.mk #[])]) fun (p11 : Addr) =>
  bnd (newC 23 [.bool false, .string (ByteArray.mk #[])]) fun (p12 : Addr) =>
  bnd (wrs p11 0 [.bool r10.1.1, .string r10.1.2]) fun _ =>
  bnd (wrs p12 0 [.bool r10.2.1.1, .string r10.2.1.2]) fun _ =>
  bnd (f37_largeint_Of (-4 : Int)) fun (r13 : (Bool × ByteArray)) =>
  bnd (f37_largeint_Of (7 : Int)) fun (r14 : (Bool × ByteArray)) =>
  bnd (f24_largeint_And r13 r14) fun (r15 : ((Bool × ByteArray) × Int)) =>
  bnd (newC 23 [.bool false, .string (ByteArray.mk #[])]) fun (p16 : Addr) =>
  bnd (wrs p16 0 [.bool r15.1.1, .string r15.1.2]) fun _ =>
  bnd (f37_largeint_Of (-5 : Int)) fun (r17 : (Bool × ByteArray)) =>
  bnd (f30_largeint_Shift r17 (-1 : Int)) fun (r18 : ((Bool × ByteArray) × Int)) =>
  bnd (newC 23 [.bool false, .string (ByteArray.mk #[])]) fun (p19 : Addr) =>
  bnd (wrs p19 0 [.bool r18.1.1, .string r18.1.2]) fun _ =>
  bnd (f37_largeint_Of (-12 : Int)) fun (r20 : (Bool × ByteArray)) =>
  bnd (f37_largeint_Of (18 : Int)) fun (r21 : (Bool × ByteArray)) =>
  bnd (f18_largeint_Gcd r20 r21) fun (r22 : ((Bool × ByteArray) × Int)) =>
  bnd (newC 23 [.bool false, .string (ByteArray.mk #[])]) fun (p23 : Addr) =>
  bnd (wrs p23 0 [.bool r22.1.1, .string r22.1.2]) fun _ =>
  bnd (f37_largeint_Of (255 : Int)) fun (r24 : (Bool × ByteArray)) =>
  bnd (f22_largeint_Text r24 (2 : Int)) fun (r25 : (ByteArray × Int)) =>
  bnd (f20_largeint_Parse (ByteArray.mk #[45, 70, 70]) (16 : Int)) fun (r26 : ((Bool × ByteArray) × Int)) =>
  bnd (newC 23 [.bool false, .string (ByteArray.mk #[])]) fun (p27 : Addr) =>
  bnd (wrs p27 0 [.bool r26.1.1, .string r26.1.2]) fun _ =>
  bnd (f20_largeint_Parse (ByteArray.mk #[102, 102]) (16 : Int)) fun (r28 : ((Bool × ByteArray) × Int)) =>
  bnd (newC 23 [.bool false, .string (ByteArray.mk #[])]) fun (p29 : Addr) =>
  bnd (wrs p29 0 [.bool r28.1.1, .string r28.1.2]) fun _ =>
  bnd (ld (.agg (.pair .bool .str)) p2) fun (v30 : (Bool × ByteArray)) =>
  bnd (f14_largeint_Div v30 (false, (ByteArray.mk #[]))) fun (r31 : ((Bool × ByteArray) × ((Bool × ByteArray) × Int))) =>
  bnd (newC 23 [.bool false, .string (ByteArray.mk #[])]) fun (p32 : Addr) =>
  bnd (newC 23 [.bool false, .string (ByteArray.mk #[])]) fun (p33 : Addr) =>
  bnd (wrs p32 0 [.bool r31.1.1, .string r31.1.2]) fun _ =>
  bnd (wrs p33 0 [.bool r31.2.1.1, .string r31.2.1.2]) fun _ =>
  bnd (ld (.agg (.pair .bool .str)) p2) fun (v34 : (Bool × ByteArray)) =>
  bnd (f30_largeint_Shift v34 (32769 : Int)) fun (r35 : ((Bool × ByteArray) × Int)) =>
  bnd (newC 23 [.bool false, .string (ByteArray.mk #[])]) fun (p36 : Addr) =>
  bnd (wrs p36 0 [.bool r35.1.1, .string r35.1.2]) fun _ =>
  bnd (
  bnd (ordM 12 12 (regionIn 12 Try.f12)) fun (o38 : List Nat) =>
  bnd (ld (.agg (.pair .bool .str)) p2) fun (v39 : (Bool × ByteArray)) =>
  cnd ((v39.1 == true) && (strEq v39.2 (ByteArray.mk #[44, 1]))) (
  bnd (ld (.agg (.pair .bool .str)) p6) fun (v40 : (Bool × ByteArray)) =>
  bnd (f37_largeint_Of (-4 : Int)) fun (r41 : (Bool × ByteArray)) =>
  bnd (
  bnd (chk (.agg (.pair .bool .str)) p6 v40) fun _ =>
  bnd (chk (.agg (.pair .bool .str)) p2 v39) fun _ =>
  ret ()) fun _ =>
  cnd ((v40.1 == r41.1) && (strEq v40.2 r41.2)) (
  bnd (ld (.agg (.pair .bool .str)) p7) fun (v42 : (Bool × ByteArray)) =>
  bnd (f37_largeint_Of (1 : Int)) fun (r43 : (Bool × ByteArray)) =>
  bnd (
  bnd (chk (.agg (.pair .bool .str)) p7 v42) fun _ =>
  bnd (chk (.agg (.pair .bool .str)) p6 v40) fun _ =>
  bnd (chk (.agg (.pair .bool .str)) p2 v39) fun _ =>
  ret ()) fun _ =>
  cnd ((v42.1 == r43.1) && (strEq v42.2 r43.2)) (
  cnd (r5.2.2 == (0 : Int)) (
  bnd (ld (.agg (.pair .bool .str)) p11) fun (v44 : (Bool × ByteArray)) =>
  bnd (f37_largeint_Of (-3 : Int)) fun (r45 : (Bool × ByteArray)) =>
  bnd (
  bnd (chk (.agg (.pair .bool .str)) p11 v44) fun _ =>
  bnd (chk (.agg (.pair .bool .str)) p7 v42) fun _ =>
  bnd (chk (.agg (.pair .bool .str)) p6 v40) fun _ =>
  bnd (chk (.agg (.pair .bool .str)) p2 v39) fun _ =>
  ret ()) fun _ =>
  cnd ((v44.1 == r45.1) && (strEq v44.2 r45.2)) (
  bnd (ld (.agg (.pair .bool .str)) p12) fun (v46 : (Bool × ByteArray)) =>
  bnd (f37_largeint_Of (-1 : Int)) fun (r47 : (Bool × ByteArray)) =>
  bnd (
  bnd (chk (.agg (.pair .bool .str)) p12 v46) fun _ =>
  bnd (chk (.agg (.pair .bool .str)) p11 v44) fun _ =>
  bnd (chk (.agg (.pair .bool .str)) p7 v42) fun _ =>
  bnd (chk (.agg (.pair .bool .str)) p6 v40) fun _ =>
  bnd (chk (.agg (.pair .bool .str)) p2 v39) fun _ =>
  ret ()) fun _ =>
  cnd ((v46.1 == r47.1) && (strEq v46.2 r47.2)) (
  ret (r10.2.2 == (0 : Int))) (
  ret false)) (
  bnd (
  bnd (chk (.agg (.pair .bool .str)) p11 v44) fun _ =>
  bnd (chk (.agg (.pair .bool .str)) p7 v42) fun _ =>
  bnd (chk (.agg (.pair .bool .str)) p6 v40) fun _ =>
  bnd (chk (.agg (.pair .bool .str)) p2 v39) fun _ =>
  ret ()) fun _ =>
  ret false)) (
  bnd (
  bnd (chk (.agg (.pair .bool .str)) p7 v42) fun _ =>
  bnd (chk (.agg (.pair .bool .str)) p6 v40) fun _ =>
  bnd (chk (.agg (.pair .bool .str)) p2 v39) fun _ =>
  ret ()) fun _ =>
  bnd (
  bnd (chk (.agg (.pair .bool .str)) p7 v42) fun _ =>
  bnd (chk (.agg (.pair .bool .str)) p6 v40) fun _ =>
  bnd (chk (.agg (.pair .bool .str)) p2 v39) fun _ =>
  ret ()) fun _ =>
  ret false)) (
  bnd (
  bnd (chk (.agg (.pair .bool .str)) p7 v42) fun _ =>
  bnd (chk (.agg (.pair .bool .str)) p6 v40) fun _ =>
  bnd (chk (.agg (.pair .bool .str)) p2 v39) fun _ =>
  ret ()) fun _ =>
  bnd (
  bnd (chk (.agg (.pair .bool .str)) p7 v42) fun _ =>
  bnd (chk (.agg (.pair .bool .str)) p6 v40) fun _ =>
  bnd (chk (.agg (.pair .bool .str)) p2 v39) fun _ =>
  ret ()) fun _ =>
  ret false)) (
  bnd (
  bnd (chk (.agg (.pair .bool .str)) p6 v40) fun _ =>
  bnd (chk (.agg (.pair .bool .str)) p2 v39) fun _ =>
  ret ()) fun _ =>
  bnd (
  bnd (chk (.agg (.pair .bool .str)) p6 v40) fun _ =>
  bnd (chk (.agg (.pair .bool .str)) p2 v39) fun _ =>
  ret ()) fun _ =>
  bnd (
  bnd (chk (.agg (.pair .bool .str)) p6 v40) fun _ =>
  bnd (chk (.agg (.pair .bool .str)) p2 v39) fun _ =>
  ret ()) fun _ =>
  ret false)) (
  bnd (
  bnd (chk (.agg (.pair .bool .str)) p2 v39) fun _ =>
  ret ()) fun _ =>
  bnd (
  bnd (chk (.agg (.pair .bool .str)) p2 v39) fun _ =>
  ret ()) fun _ =>
  bnd (
  bnd (chk (.agg (.pair .bool .str)) p2 v39) fun _ =>
  ret ()) fun _ =>
  bnd (
  bnd (chk (.agg (.pair .bool .str)) p2 v39) fun _ =>
  ret ()) fun _ =>
  ret false)) fun (s37 : Bool) =>
  bnd (
  bnd (ordM 12 13 (regionIn 13 Try.f12)) fun (o49 : List Nat) =>
  bnd (ld (.agg (.pair .bool .str)) p16) fun (v50 : (Bool × ByteArray)) =>
  bnd (f37_largeint_Of (4 : Int)) fun (r51 : (Bool × ByteArray)) =>
  bnd (
  bnd (chk (.agg (.pair .bool .str)) p16 v50) fun _ =>
  ret ()) fun _ =>
  cnd ((v50.1 == r51.1) && (strEq v50.2 r51.2)) (
  cnd (r15.2 == (0 : Int)) (
  bnd (ld (.agg (.pair .bool .str)) p19) fun (v52 : (Bool × ByteArray)) =>
  bnd (f37_largeint_Of (-3 : Int)) fun (r53 : (Bool × ByteArray)) =>
  bnd (
  bnd (chk (.agg (.pair .bool .str)) p19 v52) fun _ =>
  bnd (chk (.agg (.pair .bool .str)) p16 v50) fun _ =>
  ret ()) fun _ =>
  cnd ((v52.1 == r53.1) && (strEq v52.2 r53.2)) (
  cnd (r18.2 == (0 : Int)) (
  bnd (ld (.agg (.pair .bool .str)) p23) fun (v54 : (Bool × ByteArray)) =>
  bnd (f37_largeint_Of (6 : Int)) fun (r55 : (Bool × ByteArray)) =>
  bnd (
  bnd (chk (.agg (.pair .bool .str)) p23 v54) fun _ =>
  bnd (chk (.agg (.pair .bool .str)) p19 v52) fun _ =>
  bnd (chk (.agg (.pair .bool .str)) p16 v50) fun _ =>
  ret ()) fun _ =>
  cnd ((v54.1 == r55.1) && (strEq v54.2 r55.2)) (
  cnd (r22.2 == (0 : Int)) (
  cnd (strEq r25.1 (ByteArray.mk #[49, 49, 49, 49, 49, 49, 49, 49])) (
  cnd (r25.2 == (0 : Int)) (
  bnd (ld (.agg (.pair .bool .str)) p27) fun (v56 : (Bool × ByteArray)) =>
  bnd (f37_largeint_Of (-255 : Int)) fun (r57 : (Bool × ByteArray)) =>
  bnd (
  bnd (chk (.agg (.pair .bool .str)) p27 v56) fun _ =>
  bnd (chk (.agg (.pair .bool .str)) p23 v54) fun _ =>
  bnd (chk (.agg (.pair .bool .str)) p19 v52) fun _ =>
  bnd (chk (.agg (.pair .bool .str)) p16 v50) fun _ =>
  ret ()) fun _ =>
  cnd ((v56.1 == r57.1) && (strEq v56.2 r57.2)) (
  ret (r26.2 == (0 : Int))) (
  ret false)) (
  bnd (
  bnd (chk (.agg (.pair .bool .str)) p23 v54) fun _ =>
  bnd (chk (.agg (.pair .bool .str)) p19 v52) fun _ =>
  bnd (chk (.agg (.pair .bool .str)) p16 v50) fun _ =>
  ret ()) fun _ =>
  ret false)) (
  bnd (
  bnd (chk (.agg (.pair .bool .str)) p23 v54) fun _ =>
  bnd (chk (.agg (.pair .bool .str)) p19 v52) fun _ =>
  bnd (chk (.agg (.pair .bool .str)) p16 v50) fun _ =>
  ret ()) fun _ =>
  ret false)) (
  bnd (
  bnd (chk (.agg (.pair .bool .str)) p23 v54) fun _ =>
  bnd (chk (.agg (.pair .bool .str)) p19 v52) fun _ =>
  bnd (chk (.agg (.pair .bool .str)) p16 v50) fun _ =>
  ret ()) fun _ =>
  ret false)) (
  bnd (
  bnd (chk (.agg (.pair .bool .str)) p23 v54) fun _ =>
  bnd (chk (.agg (.pair .bool .str)) p19 v52) fun _ =>
  bnd (chk (.agg (.pair .bool .str)) p16 v50) fun _ =>
  ret ()) fun _ =>
  ret false)) (
  bnd (
  bnd (chk (.agg (.pair .bool .str)) p19 v52) fun _ =>
  bnd (chk (.agg (.pair .bool .str)) p16 v50) fun _ =>
  ret ()) fun _ =>
  bnd (
  bnd (chk (.agg (.pair .bool .str)) p19 v52) fun _ =>
  bnd (chk (.agg (.pair .bool .str)) p16 v50) fun _ =>
  ret ()) fun _ =>
  ret false)) (
  bnd (
  bnd (chk (.agg (.pair .bool .str)) p19 v52) fun _ =>
  bnd (chk (.agg (.pair .bool .str)) p16 v50) fun _ =>
  ret ()) fun _ =>
  bnd (
  bnd (chk (.agg (.pair .bool .str)) p19 v52) fun _ =>
  bnd (chk (.agg (.pair .bool .str)) p16 v50) fun _ =>
  ret ()) fun _ =>
  ret false)) (
  bnd (
  bnd (chk (.agg (.pair .bool .str)) p16 v50) fun _ =>
  ret ()) fun _ =>
  bnd (
  bnd (chk (.agg (.pair .bool .str)) p16 v50) fun _ =>
  ret ()) fun _ =>
  bnd (
  bnd (chk (.agg (.pair .bool .str)) p16 v50) fun _ =>
  ret ()) fun _ =>
  ret false)) (
  bnd (
  bnd (chk (.agg (.pair .bool .str)) p16 v50) fun _ =>
  ret ()) fun _ =>
  bnd (
  bnd (chk (.agg (.pair .bool .str)) p16 v50) fun _ =>
  ret ()) fun _ =>
  bnd (
  bnd (chk (.agg (.pair .bool .str)) p16 v50) fun _ =>
  ret ()) fun _ =>
  ret false)) fun (s48 : Bool) =>
  ret (cond (cond (cond (cond (cond (cond s37 s48 false) (r31.2.2 == (90 : Int)) false) (r35.2 == (91 : Int)) false) true false) (r28.2 == (93 : Int)) false) true false)
noncomputable def Af12_palaverlaw09_works : Ann := (.two .nil (.two .nil (.two .nil (.two .nil (.two .nil (.two .nil (.two .nil (.two .nil (.two .nil (.two .nil (.two .nil (.two .nil (.two (.join [(25, .bool)] [84, 85, 86, 87, 88, 89, 90, 91, 92, 93, 94, 95, 96, 97, 98, 99, 100, 101, 102, 103, 104, 105, 106, 107, 108, 109, 110, 111, 112, 113, 114] false (.ord 12 [(0, 4294967294), (0, 4294967293), (3, 4294967288), (4, 4294967283), (8, 4294967271), (8, 4294967255), (56, 4294967175), (72, 4294967095), (160, 4294966911), (256, 4294966527), (256, 4294966015), (1792, 4294963455), (2304, 4294960895), (5120, 4294955007), (8192, 4294942719), (24576, 4294909951), (40960, 4294860799), (73728, 4294770687), (131072, 4294574079), (131072, 4294311935), (917504, 4293001215), (1179648, 4291690495), (2621440, 4288675839), (4194304, 4282384383), (4194304, 4273995775), (29360128, 4232052735), (37748736, 4190109695), (83886080, 4093640703), (134217728, 3892314111), (402653184, 3355443199), (671088640, 2550136831), (2147483647, 1073741823)] (.o 0 (.o 1 (.o 2 (.o 3 (.s 87 (.o 4 (.o 5 (.o 6 (.o 7 (.o 8 (.s 92 (.o 9 (.o 10 (.o 11 (.o 12 (.o 13 (.s 97 (.o 14 (.o 15 (.o 16 (.o 17 (.s 101 (.o 18 (.o 19 (.o 20 (.o 21 (.o 22 (.s 106 (.o 23 (.o 24 (.o 25 (.o 26 (.o 27 (.s 111 (.o 28 (.o 29 (.o 30 (.o 31 .done)))) (.o 28 (.o 29 (.o 30 (.o 31 .done)))))))))) (.o 23 (.o 24 (.o 25 (.o 26 (.o 27 (.o 28 (.o 29 (.o 30 (.o 31 .done))))))))))))))) (.o 18 (.o 19 (.o 20 (.o 21 (.o 22 (.o 23 (.o 24 (.o 25 (.o 26 (.o 27 (.o 28 (.o 29 (.o 30 (.o 31 .done))))))))))))))))))) (.o 14 (.o 15 (.o 16 (.o 17 (.o 18 (.o 19 (.o 20 (.o 21 (.o 22 (.o 23 (.o 24 (.o 25 (.o 26 (.o 27 (.o 28 (.o 29 (.o 30 (.o 31 .done)))))))))))))))))))))))) (.o 9 (.o 10 (.o 11 (.o 12 (.o 13 (.o 14 (.o 15 (.o 16 (.o 17 (.o 18 (.o 19 (.o 20 (.o 21 (.o 22 (.o 23 (.o 24 (.o 25 (.o 26 (.o 27 (.o 28 (.o 29 (.o 30 (.o 31 .done))))))))))))))))))))))))))))) (.o 4 (.o 5 (.o 6 (.o 7 (.o 8 (.o 9 (.o 10 (.o 11 (.o 12 (.o 13 (.o 14 (.o 15 (.o 16 (.o 17 (.o 18 (.o 19 (.o 20 (.o 21 (.o 22 (.o 23 (.o 24 (.o 25 (.o 26 (.o 27 (.o 28 (.o 29 (.o 30 (.o 31 .done))))))))))))))))))))))))))))))))))) (.two (.join [(26, .bool)] [115, 116, 117, 118, 119, 120, 121, 122, 123, 124, 125, 126, 127, 128, 129, 130, 131, 132, 133, 134, 135, 136, 137, 138, 139, 140, 141, 142, 143, 144, 145, 146, 147, 148, 149, 150, 151, 152, 153, 154, 155, 156] false (.ord 12 [(0, 8796093022206), (0, 8796093022205), (3, 8796093022200), (6, 8796093022195), (8, 8796093022183), (24, 8796093022151), (40, 8796093022103), (72, 8796093022015), (128, 8796093021823), (128, 8796093021567), (896, 8796093020287), (1152, 8796093019007), (2560, 8796093016063), (4096, 8796093009919), (12288, 8796092993535), (20480, 8796092968959), (36864, 8796092923903), (65536, 8796092825599), (65536, 8796092694527), (458752, 8796092039167), (589824, 8796091383807), (1310720, 8796089876479), (2097152, 8796086730751), (6291456, 8796078342143), (10485760, 8796065759231), (18874368, 8796042690559), (33554432, 8795992358911), (100663296, 8795858141183), (167772160, 8795656814591), (301989888, 8795287715839), (536870912, 8794482409471), (1610612736, 8792334925823), (2684354560, 8789113700351), (4831838208, 8783208120319), (8589934592, 8770323218431), (8589934592, 8753143349247), (60129542144, 8667244003327), (77309411328, 8581344657407), (171798691840, 8383776161791), (274877906944, 7971459301375), (824633720832, 6871947673599), (1374389534720, 5222680231935), (4398046511103, 2199023255551)] (.o 0 (.o 1 (.o 2 (.o 3 (.s 118 (.o 4 (.o 5 (.o 6 (.o 7 (.s 122 (.o 8 (.o 9 (.o 10 (.o 11 (.o 12 (.s 127 (.o 13 (.o 14 (.o 15 (.o 16 (.s 131 (.o 17 (.o 18 (.o 19 (.o 20 (.o 21 (.s 136 (.o 22 (.o 23 (.o 24 (.o 25 (.s 140 (.o 26 (.o 27 (.o 28 (.o 29 (.s 144 (.o 30 (.o 31 (.o 32 (.o 33 (.s 148 (.o 34 (.o 35 (.o 36 (.o 37 (.o 38 (.s 153 (.o 39 (.o 40 (.o 41 (.o 42 .done)))) (.o 39 (.o 40 (.o 41 (.o 42 .done)))))))))) (.o 34 (.o 35 (.o 36 (.o 37 (.o 38 (.o 39 (.o 40 (.o 41 (.o 42 .done)))))))))))))) (.o 30 (.o 31 (.o 32 (.o 33 (.o 34 (.o 35 (.o 36 (.o 37 (.o 38 (.o 39 (.o 40 (.o 41 (.o 42 .done)))))))))))))))))) (.o 26 (.o 27 (.o 28 (.o 29 (.o 30 (.o 31 (.o 32 (.o 33 (.o 34 (.o 35 (.o 36 (.o 37 (.o 38 (.o 39 (.o 40 (.o 41 (.o 42 .done)))))))))))))))))))))) (.o 22 (.o 23 (.o 24 (.o 25 (.o 26 (.o 27 (.o 28 (.o 29 (.o 30 (.o 31 (.o 32 (.o 33 (.o 34 (.o 35 (.o 36 (.o 37 (.o 38 (.o 39 (.o 40 (.o 41 (.o 42 .done))))))))))))))))))))))))))) (.o 17 (.o 18 (.o 19 (.o 20 (.o 21 (.o 22 (.o 23 (.o 24 (.o 25 (.o 26 (.o 27 (.o 28 (.o 29 (.o 30 (.o 31 (.o 32 (.o 33 (.o 34 (.o 35 (.o 36 (.o 37 (.o 38 (.o 39 (.o 40 (.o 41 (.o 42 .done))))))))))))))))))))))))))))))) (.o 13 (.o 14 (.o 15 (.o 16 (.o 17 (.o 18 (.o 19 (.o 20 (.o 21 (.o 22 (.o 23 (.o 24 (.o 25 (.o 26 (.o 27 (.o 28 (.o 29 (.o 30 (.o 31 (.o 32 (.o 33 (.o 34 (.o 35 (.o 36 (.o 37 (.o 38 (.o 39 (.o 40 (.o 41 (.o 42 .done)))))))))))))))))))))))))))))))))))) (.o 8 (.o 9 (.o 10 (.o 11 (.o 12 (.o 13 (.o 14 (.o 15 (.o 16 (.o 17 (.o 18 (.o 19 (.o 20 (.o 21 (.o 22 (.o 23 (.o 24 (.o 25 (.o 26 (.o 27 (.o 28 (.o 29 (.o 30 (.o 31 (.o 32 (.o 33 (.o 34 (.o 35 (.o 36 (.o 37 (.o 38 (.o 39 (.o 40 (.o 41 (.o 42 .done)))))))))))))))))))))))))))))))))))))))) (.o 4 (.o 5 (.o 6 (.o 7 (.o 8 (.o 9 (.o 10 (.o 11 (.o 12 (.o 13 (.o 14 (.o 15 (.o 16 (.o 17 (.o 18 (.o 19 (.o 20 (.o 21 (.o 22 (.o 23 (.o 24 (.o 25 (.o 26 (.o 27 (.o 28 (.o 29 (.o 30 (.o 31 (.o 32 (.o 33 (.o 34 (.o 35 (.o 36 (.o 37 (.o 38 (.o 39 (.o 40 (.o 41 (.o 42 .done)))))))))))))))))))))))))))))))))))))))))))))) (.two .nil .nil)))))))))))))))
theorem Cf12_palaverlaw09_works_ok : Cf12_palaverlaw09_works.Ok := mkC_ok mixed tysOk zerosOk eqsOk ⟨Sf14_largeint_Div, Sf16_largeint_Quo, Sf18_largeint_Gcd, Sf20_largeint_Parse, Sf22_largeint_Text, Sf24_largeint_And, Sf30_largeint_Shift, Sf37_largeint_Of, trivial⟩ trivial
theorem Ef12_palaverlaw09_works (x : Unit) : evF Cf12_palaverlaw09_works Try.f12 177 .unit .bool Af12_palaverlaw09_works x = f12_palaverlaw09_works := by kernel_rfl
theorem Sf12_palaverlaw09_works : SoundF Try.prog 12 ⟨.unit, .bool, fun _ => f12_palaverlaw09_works⟩ :=
  soundF_of Cf12_palaverlaw09_works_ok Try.func12 (by kernel_rfl) (by kernel_rfl) Ef12_palaverlaw09_works
noncomputable def Cf13_palaverlaw09_far : Ctx := mkC Try.prog tys zeros eqs [] []
/-- palaverpalaverlaw09.far -/
noncomputable def f13_palaverlaw09_far (x0 : (Bool × ByteArray)) (x1 : (Bool × ByteArray)) : M Bool :=
  bnd (newC 23 [.bool x0.1, .string x0.2]) fun (p1 : Addr) =>
  bnd (newC 23 [.bool x1.1, .string x1.2]) fun (p2 : Addr) =>
  bnd (ld .str (Addr.add p1 1)) fun (v3 : ByteArray) =>
  bnd (
  cnd (decide ((ByteArray.size v3 : Int) > (1048576 : Int))) (
  ret true) (
  bnd (ld .str (Addr.add p2 1)) fun (v4 : ByteArray) =>
  ret (decide ((ByteArray.size v4 : Int) > (1048576 : Int))))) fun (b5 : Bool) =>
  ret b5
noncomputable def Af13_palaverlaw09_far : Ann := (.two .nil (.two .nil .nil))
theorem Cf13_palaverlaw09_far_ok : Cf13_palaverlaw09_far.Ok := mkC_ok mixed tysOk zerosOk eqsOk trivial trivial
theorem Ef13_palaverlaw09_far (x : ((Bool × ByteArray) × (Bool × ByteArray))) : evF Cf13_palaverlaw09_far Try.f13 15 (.pair (.agg (.pair .bool .str)) (.agg (.pair .bool .str))) .bool Af13_palaverlaw09_far x = f13_palaverlaw09_far x.1 x.2 := by kernel_rfl
theorem Sf13_palaverlaw09_far : SoundF Try.prog 13 ⟨(.pair (.agg (.pair .bool .str)) (.agg (.pair .bool .str))), .bool, fun x => f13_palaverlaw09_far x.1 x.2⟩ :=
  soundF_of Cf13_palaverlaw09_far_ok Try.func13 (by kernel_rfl) (by kernel_rfl) Ef13_palaverlaw09_far
noncomputable def Cf43_palaverref09_Check : Ctx := mkC Try.prog tys zeros eqs [] []
/-- palaverpalaverref09.Check -/
noncomputable def f43_palaverref09_Check (x0 : (Bool × ByteArray)) : M Int :=
  bnd (newC 23 [.bool x0.1, .string x0.2]) fun (p1 : Addr) =>
  bnd (ld .str (Addr.add p1 1)) fun (v2 : ByteArray) =>
  cnd (decide ((ByteArray.size v2 : Int) > (4096 : Int))) (
  ret (92 : Int)) (
  bnd (
  cnd ((ByteArray.size v2 : Int) == (0 : Int)) (
  bnd (ld .bool (Addr.add p1 0)) fun (v3 : Bool) =>
  ret v3) (
  ret false)) fun (b4 : Bool) =>
  bnd (
  cnd b4 (
  ret true) (
  bnd (
  cnd (decide ((ByteArray.size v2 : Int) > (0 : Int))) (
  bnd (ld .str (Addr.add p1 1)) fun (v5 : ByteArray) =>
  bnd (ixS v5 (IntKind.wrap .i64 ((ByteArray.size v2 : Int) - (1 : Int)))) fun (v6 : Int) =>
  ret (v6 == (0 : Int))) (
  ret false)) fun (b7 : Bool) =>
  ret b7)) fun (b8 : Bool) =>
  cnd b8 (
  ret (1 : Int)) (
  ret (0 : Int)))
noncomputable def Af43_palaverref09_Check : Ann := (.two .nil (.two .nil (.two (.one (.two .nil (.two (.two .nil .nil) (.two .nil (.two (.two .nil .nil) .nil))))) (.two .nil .nil))))
theorem Cf43_palaverref09_Check_ok : Cf43_palaverref09_Check.Ok := mkC_ok mixed tysOk zerosOk eqsOk trivial trivial
theorem Ef43_palaverref09_Check (x : (Bool × ByteArray)) : evF Cf43_palaverref09_Check Try.f43 29 (.agg (.pair .bool .str)) (.int .i64) Af43_palaverref09_Check x = f43_palaverref09_Check x := by kernel_rfl
theorem Sf43_palaverref09_Check : SoundF Try.prog 43 ⟨(.agg (.pair .bool .str)), (.int .i64), fun x => f43_palaverref09_Check x⟩ :=
  soundF_of Cf43_palaverref09_Check_ok Try.func43 (by kernel_rfl) (by kernel_rfl) Ef43_palaverref09_Check
noncomputable def Cf55_palaverref09_both : Ctx := mkC Try.prog tys zeros eqs [(43, ⟨(.agg (.pair .bool .str)), (.int .i64), fun x => f43_palaverref09_Check x⟩)] []
/-- palaverpalaverref09.both -/
noncomputable def f55_palaverref09_both (x0 : (Bool × ByteArray)) (x1 : (Bool × ByteArray)) : M Int :=
  bnd (newC 23 [.bool x0.1, .string x0.2]) fun (p1 : Addr) =>
  bnd (newC 23 [.bool x1.1, .string x1.2]) fun (p2 : Addr) =>
  bnd (ld (.agg (.pair .bool .str)) p1) fun (v3 : (Bool × ByteArray)) =>
  bnd (f43_palaverref09_Check v3) fun (r4 : Int) =>
  cnd (r4 != (0 : Int)) (
  ret r4) (
  bnd (ld (.agg (.pair .bool .str)) p2) fun (v5 : (Bool × ByteArray)) =>
  bnd (f43_palaverref09_Check v5) fun (r6 : Int) =>
  ret r6)
noncomputable def Af55_palaverref09_both : Ann := (.two .nil (.two .nil (.two (.two .nil (.two (.two .nil .nil) .nil)) (.two .nil .nil))))
theorem Cf55_palaverref09_both_ok : Cf55_palaverref09_both.Ok := mkC_ok mixed tysOk zerosOk eqsOk ⟨Sf43_palaverref09_Check, trivial⟩ trivial
theorem Ef55_palaverref09_both (x : ((Bool × ByteArray) × (Bool × ByteArray))) : evF Cf55_palaverref09_both Try.f55 13 (.pair (.agg (.pair .bool .str)) (.agg (.pair .bool .str))) (.int .i64) Af55_palaverref09_both x = f55_palaverref09_both x.1 x.2 := by kernel_rfl
theorem Sf55_palaverref09_both : SoundF Try.prog 55 ⟨(.pair (.agg (.pair .bool .str)) (.agg (.pair .bool .str))), (.int .i64), fun x => f55_palaverref09_both x.1 x.2⟩ :=
  soundF_of Cf55_palaverref09_both_ok Try.func55 (by kernel_rfl) (by kernel_rfl) Ef55_palaverref09_both
noncomputable def Cf92_palaverref09_digit : Ctx := mkC Try.prog tys zeros eqs [] []
/-- palaverpalaverref09.digit -/
noncomputable def f92_palaverref09_digit (x0 : Sl) (x1 : Int) : M Int :=
  cnd (decide (x1 < (x0.len : Int))) (
  bnd (ix 1 x0 x1) fun (p1 : Addr) =>
  bnd (ld (.int .u8) p1) fun (v2 : Int) =>
  ret (IntKind.wrap .i64 v2)) (
  ret (0 : Int))
noncomputable def Af92_palaverref09_digit : Ann := (.two .nil (.two (.two .nil (.two (.two .nil .nil) .nil)) (.two .nil .nil)))
theorem Cf92_palaverref09_digit_ok : Cf92_palaverref09_digit.Ok := mkC_ok mixed tysOk zerosOk eqsOk trivial trivial
theorem Ef92_palaverref09_digit (x : (Sl × Int)) : evF Cf92_palaverref09_digit Try.f92 14 (.pair .sl (.int .i64)) (.int .i64) Af92_palaverref09_digit x = f92_palaverref09_digit x.1 x.2 := by kernel_rfl
theorem Sf92_palaverref09_digit : SoundF Try.prog 92 ⟨(.pair .sl (.int .i64)), (.int .i64), fun x => f92_palaverref09_digit x.1 x.2⟩ :=
  soundF_of Cf92_palaverref09_digit_ok Try.func92 (by kernel_rfl) (by kernel_rfl) Ef92_palaverref09_digit
noncomputable def Cf64_palaverref09_trim : Ctx := mkC Try.prog tys zeros eqs [] []
/-- palaverpalaverref09.trim -/
noncomputable def f64_palaverref09_trim (x0 : Sl) : M Sl :=
  loopM (fun (s1 : Sl) =>
  bnd (
  cnd (decide ((s1.len : Int) > (0 : Int))) (
  bnd (ix 1 s1 (IntKind.wrap .i64 ((s1.len : Int) - (1 : Int)))) fun (p2 : Addr) =>
  bnd (ld (.int .u8) p2) fun (v3 : Int) =>
  ret (v3 == (0 : Int))) (
  ret false)) fun (b4 : Bool) =>
  cnd b4 (
  bnd (slc 1 s1 none (some (IntKind.wrap .i64 ((s1.len : Int) - (1 : Int)))) none) fun (v5 : Sl) =>
  ret (Sum.inl v5)) (
  ret (Sum.inr s1))) x0
noncomputable def Af64_palaverref09_trim : Ann := (.two .nil (.two (.one (.loop [(0, .sl)] [3, 4, 5, 6, 7, 8, 9, 10, 11, 12, 13, 14, 15, 16, 17, 18, 19] (.two (.two .nil (.two .nil .nil)) (.one .nil)))) (.two .nil .nil)))
theorem Cf64_palaverref09_trim_ok : Cf64_palaverref09_trim.Ok := mkC_ok mixed tysOk zerosOk eqsOk trivial trivial
theorem Ef64_palaverref09_trim (x : Sl) : evF Cf64_palaverref09_trim Try.f64 21 .sl .sl Af64_palaverref09_trim x = f64_palaverref09_trim x := by kernel_rfl
theorem Sf64_palaverref09_trim : SoundF Try.prog 64 ⟨.sl, .sl, fun x => f64_palaverref09_trim x⟩ :=
  soundF_of Cf64_palaverref09_trim_ok Try.func64 (by kernel_rfl) (by kernel_rfl) Ef64_palaverref09_trim
noncomputable def Cf75_palaverref09_plus : Ctx := mkC Try.prog tys zeros eqs [(64, ⟨.sl, .sl, fun x => f64_palaverref09_trim x⟩), (92, ⟨(.pair .sl (.int .i64)), (.int .i64), fun x => f92_palaverref09_digit x.1 x.2⟩)] []
/-- palaverpalaverref09.plus -/
noncomputable def f75_palaverref09_plus (x0 : Sl) (x1 : Sl) : M Sl :=
  loopM (fun (s1 : (Sl × (Int × Int))) =>
  cnd (decide (s1.2.2 ≤ (maxI (x0.len : Int) (x1.len : Int)))) (
  bnd (f92_palaverref09_digit x0 s1.2.2) fun (r2 : Int) =>
  bnd (f92_palaverref09_digit x1 s1.2.2) fun (r3 : Int) =>
  bnd (runV Try.prog .sl (Instr.buildSlice 61 1 #[(0, .int .u8 (IntKind.wrap .u8 (Int.tmod (IntKind.wrap .i64 ((IntKind.wrap .i64 (r2 + r3)) + s1.2.1)) (256 : Int))))])) fun (v4 : Sl) =>
  bnd (runV Try.prog .sl (Builtin.append_ #[61, 61] 61 #[.slice s1.1.a s1.1.len s1.1.cap, .slice v4.a v4.len v4.cap])) fun (v5 : Sl) =>
  ret (Sum.inl (v5, (IntKind.wrap .i64 (Int.tdiv (IntKind.wrap .i64 ((IntKind.wrap .i64 (r2 + r3)) + s1.2.1)) (256 : Int))), (IntKind.wrap .i64 (s1.2.2 + (1 : Int)))))) (
  bnd (
  bnd (f64_palaverref09_trim s1.1) fun (r6 : Sl) =>
  ret r6) fun r7 =>
  ret (Sum.inr r7))) ((Sl.mk none 0 0), (0 : Int), (0 : Int))
noncomputable def Af75_palaverref09_plus : Ann := (.two .nil (.two .nil (.two .nil (.two (.two .nil (.one (.loop [(5, .sl), (6, (.int .i64)), (7, (.int .i64))] [8, 9, 10, 11, 12, 13, 14, 15, 16, 17, 18, 19, 20, 21, 22, 23, 24, 25, 26, 27, 28, 29, 30, 31, 32, 33, 34] (.two (.two .nil (.two .nil .nil)) (.two (.one (.two .nil (.two .nil .nil))) .nil))))) (.two .nil .nil)))))
theorem Cf75_palaverref09_plus_ok : Cf75_palaverref09_plus.Ok := mkC_ok mixed tysOk zerosOk eqsOk ⟨Sf64_palaverref09_trim, Sf92_palaverref09_digit, trivial⟩ trivial
theorem Ef75_palaverref09_plus (x : (Sl × Sl)) : evF Cf75_palaverref09_plus Try.f75 37 (.pair .sl .sl) .sl Af75_palaverref09_plus x = f75_palaverref09_plus x.1 x.2 := by kernel_rfl
theorem Sf75_palaverref09_plus : SoundF Try.prog 75 ⟨(.pair .sl .sl), .sl, fun x => f75_palaverref09_plus x.1 x.2⟩ :=
  soundF_of Cf75_palaverref09_plus_ok Try.func75 (by kernel_rfl) (by kernel_rfl) Ef75_palaverref09_plus
noncomputable def Cf79_palaverref09_cmp : Ctx := mkC Try.prog tys zeros eqs [(92, ⟨(.pair .sl (.int .i64)), (.int .i64), fun x => f92_palaverref09_digit x.1 x.2⟩)] []
/-- palaverpalaverref09.cmp -/
noncomputable def f79_palaverref09_cmp (x0 : Sl) (x1 : Sl) : M Int :=
  loopM (fun (s1 : Int) =>
  cnd (decide (s1 ≥ (0 : Int))) (
  bnd (f92_palaverref09_digit x0 s1) fun (r2 : Int) =>
  bnd (f92_palaverref09_digit x1 s1) fun (r3 : Int) =>
  cnd (decide (r2 < r3)) (
  ret (Sum.inr (-1 : Int))) (
  cnd (decide (r2 > r3)) (
  ret (Sum.inr (1 : Int))) (
  ret (Sum.inl (IntKind.wrap .i64 (s1 - (1 : Int))))))) (
  ret (Sum.inr (0 : Int)))) (IntKind.wrap .i64 ((maxI (x0.len : Int) (x1.len : Int)) - (1 : Int)))
noncomputable def Af79_palaverref09_cmp : Ann := (.two .nil (.two (.two .nil (.one (.loop [(5, (.int .i64))] [4, 6, 7, 14, 15, 16, 17, 18, 19, 20, 21, 22, 23, 24, 25, 26, 27, 28, 29] (.two (.two .nil (.two .nil .nil)) (.two (.one (.two .nil (.two .nil (.two (.two .nil (.two (.two .nil .nil) .nil)) (.two .nil (.two (.two .nil .nil) .nil)))))) .nil))))) (.two .nil .nil)))
theorem Cf79_palaverref09_cmp_ok : Cf79_palaverref09_cmp.Ok := mkC_ok mixed tysOk zerosOk eqsOk ⟨Sf92_palaverref09_digit, trivial⟩ trivial
theorem Ef79_palaverref09_cmp (x : (Sl × Sl)) : evF Cf79_palaverref09_cmp Try.f79 30 (.pair .sl .sl) (.int .i64) Af79_palaverref09_cmp x = f79_palaverref09_cmp x.1 x.2 := by kernel_rfl
theorem Sf79_palaverref09_cmp : SoundF Try.prog 79 ⟨(.pair .sl .sl), (.int .i64), fun x => f79_palaverref09_cmp x.1 x.2⟩ :=
  soundF_of Cf79_palaverref09_cmp_ok Try.func79 (by kernel_rfl) (by kernel_rfl) Ef79_palaverref09_cmp
noncomputable def Cf83_palaverref09_minus : Ctx := mkC Try.prog tys zeros eqs [(64, ⟨.sl, .sl, fun x => f64_palaverref09_trim x⟩), (92, ⟨(.pair .sl (.int .i64)), (.int .i64), fun x => f92_palaverref09_digit x.1 x.2⟩)] []
/-- palaverpalaverref09.minus -/
noncomputable def f83_palaverref09_minus (x0 : Sl) (x1 : Sl) : M Sl :=
  loopM (fun (s1 : (Sl × (Int × Int))) =>
  cnd (decide (s1.2.2 < (x0.len : Int))) (
  bnd (f92_palaverref09_digit x0 s1.2.2) fun (r2 : Int) =>
  bnd (f92_palaverref09_digit x1 s1.2.2) fun (r3 : Int) =>
  bnd (
  cnd (decide ((IntKind.wrap .i64 ((IntKind.wrap .i64 (r2 - r3)) - s1.2.1)) < (0 : Int))) (
  ret ((1 : Int), (IntKind.wrap .i64 ((IntKind.wrap .i64 ((IntKind.wrap .i64 (r2 - r3)) - s1.2.1)) + (256 : Int))))) (
  ret ((0 : Int), (IntKind.wrap .i64 ((IntKind.wrap .i64 (r2 - r3)) - s1.2.1))))) fun (s4 : (Int × Int)) =>
  bnd (runV Try.prog .sl (Instr.buildSlice 61 1 #[(0, .int .u8 (IntKind.wrap .u8 s4.2))])) fun (v5 : Sl) =>
  bnd (runV Try.prog .sl (Builtin.append_ #[61, 61] 61 #[.slice s1.1.a s1.1.len s1.1.cap, .slice v5.a v5.len v5.cap])) fun (v6 : Sl) =>
  ret (Sum.inl (v6, s4.1, (IntKind.wrap .i64 (s1.2.2 + (1 : Int)))))) (
  bnd (
  bnd (f64_palaverref09_trim s1.1) fun (r7 : Sl) =>
  ret r7) fun r8 =>
  ret (Sum.inr r8))) ((Sl.mk none 0 0), (0 : Int), (0 : Int))
noncomputable def Af83_palaverref09_minus : Ann := (.two .nil (.two .nil (.two .nil (.two (.two .nil (.one (.loop [(5, .sl), (6, (.int .i64)), (7, (.int .i64))] [8, 9, 10, 11, 12, 13, 14, 15, 16, 17, 18, 19, 20, 21, 22, 23, 24, 25, 26, 27, 28, 29, 30, 31, 32] (.two (.two .nil (.two .nil .nil)) (.two (.one (.two .nil (.two .nil (.two (.two .nil (.join [(6, (.int .i64)), (8, (.int .i64))] [26, 27] false (.two (.two .nil .nil) .nil))) .nil)))) .nil))))) (.two .nil .nil)))))
theorem Cf83_palaverref09_minus_ok : Cf83_palaverref09_minus.Ok := mkC_ok mixed tysOk zerosOk eqsOk ⟨Sf64_palaverref09_trim, Sf92_palaverref09_digit, trivial⟩ trivial
theorem Ef83_palaverref09_minus (x : (Sl × Sl)) : evF Cf83_palaverref09_minus Try.f83 35 (.pair .sl .sl) .sl Af83_palaverref09_minus x = f83_palaverref09_minus x.1 x.2 := by kernel_rfl
theorem Sf83_palaverref09_minus : SoundF Try.prog 83 ⟨(.pair .sl .sl), .sl, fun x => f83_palaverref09_minus x.1 x.2⟩ :=
  soundF_of Cf83_palaverref09_minus_ok Try.func83 (by kernel_rfl) (by kernel_rfl) Ef83_palaverref09_minus
noncomputable def Cf56_palaverref09_divide : Ctx := mkC Try.prog tys zeros eqs [(64, ⟨.sl, .sl, fun x => f64_palaverref09_trim x⟩), (75, ⟨(.pair .sl .sl), .sl, fun x => f75_palaverref09_plus x.1 x.2⟩), (79, ⟨(.pair .sl .sl), (.int .i64), fun x => f79_palaverref09_cmp x.1 x.2⟩), (83, ⟨(.pair .sl .sl), .sl, fun x => f83_palaverref09_minus x.1 x.2⟩)] []
/-- palaverpalaverref09.divide -/
noncomputable def f56_palaverref09_divide (x0 : Sl) (x1 : Sl) : M (Sl × Sl) :=
  bnd (runV Try.prog .sl (Instr.makeSlice 61 (.int .i64 (x0.len : Int)) (.int .i64 (x0.len : Int)))) fun (v1 : Sl) =>
  bnd (newC 93 [.slice none 0 0, .slice none 0 0, .slice none 0 0, .slice none 0 0, .slice none 0 0, .slice none 0 0, .slice none 0 0, .slice none 0 0]) fun (p2 : Addr) =>
  bnd (ixA 8 1 p2 (0 : Int)) fun (p3 : Addr) =>
  bnd (wrs p3 0 [.slice x1.a x1.len x1.cap]) fun _ =>
  loopM (fun (s4 : Int) =>
  cnd (decide (s4 < (8 : Int))) (
  bnd (
  bnd (ordM 56 7 (regionIn 7 Try.f56)) fun (o6 : List Nat) =>
  bnd (ixA 8 1 p2 (IntKind.wrap .i64 (s4 - (1 : Int)))) fun (p7 : Addr) =>
  bnd (ld .sl p7) fun (v8 : Sl) =>
  bnd (ixA 8 1 p2 (IntKind.wrap .i64 (s4 - (1 : Int)))) fun (p9 : Addr) =>
  bnd (ld .sl p9) fun (v10 : Sl) =>
  bnd (f75_palaverref09_plus v8 v10) fun (r11 : Sl) =>
  bnd (ret ()) fun _ =>
  bnd (ixA 8 1 p2 s4) fun (p12 : Addr) =>
  bnd (wrs p12 0 [.slice r11.a r11.len r11.cap]) fun _ =>
  bnd (ret ()) fun _ =>
  ret ()) fun (s5 : Unit) =>
  ret (Sum.inl (IntKind.wrap .i64 (s4 + (1 : Int))))) (
  bnd (
  loopM (fun (s13 : (Sl × Int)) =>
  cnd (decide (s13.2 ≥ (0 : Int))) (
  bnd (ix 1 x0 s13.2) fun (p14 : Addr) =>
  bnd (ld (.int .u8) p14) fun (v15 : Int) =>
  bnd (runV Try.prog .sl (Instr.buildSlice 61 1 #[(0, .int .u8 v15)])) fun (v16 : Sl) =>
  bnd (runV Try.prog .sl (Builtin.append_ #[61, 61] 61 #[.slice v16.a v16.len v16.cap, .slice s13.1.a s13.1.len s13.1.cap])) fun (v17 : Sl) =>
  bnd (f64_palaverref09_trim v17) fun (r18 : Sl) =>
  loopM (fun (s19 : (Sl × (Int × Int))) =>
  cnd (decide (s19.2.2 ≥ (0 : Int))) (
  bnd (ixA 8 1 p2 s19.2.2) fun (p20 : Addr) =>
  bnd (ld .sl p20) fun (v21 : Sl) =>
  bnd (f79_palaverref09_cmp s19.1 v21) fun (r22 : Int) =>
  bnd (
  cnd (decide (r22 ≥ (0 : Int))) (
  bnd (ixA 8 1 p2 s19.2.2) fun (p24 : Addr) =>
  bnd (ld .sl p24) fun (v25 : Sl) =>
  bnd (f83_palaverref09_minus s19.1 v25) fun (r26 : Sl) =>
  ret (r26, (IntKind.wrap .i64 ((IntKind.wrap .i64 ((2 : Int) * s19.2.1)) + (1 : Int))))) (
  ret (s19.1, (IntKind.wrap .i64 ((2 : Int) * s19.2.1))))) fun (s23 : (Sl × Int)) =>
  ret (Sum.inl (s23.1, s23.2, (IntKind.wrap .i64 (s19.2.2 - (1 : Int)))))) (
  bnd (
  bnd (ix 1 v1 s13.2) fun (p27 : Addr) =>
  bnd (wrs p27 0 [.int .u8 (IntKind.wrap .u8 s19.2.1)]) fun _ =>
  ret (Sum.inl (s19.1, (IntKind.wrap .i64 (s13.2 - (1 : Int)))))) fun r28 =>
  ret (Sum.inr r28))) (r18, (0 : Int), (7 : Int))) (
  bnd (
  bnd (f64_palaverref09_trim v1) fun (r29 : Sl) =>
  ret (r29, s13.1)) fun r30 =>
  ret (Sum.inr r30))) ((Sl.mk none 0 0), (IntKind.wrap .i64 ((x0.len : Int) - (1 : Int))))) fun r31 =>
  ret (Sum.inr r31))) (1 : Int)
noncomputable def Af56_palaverref09_divide : Ann := (.two .nil (.two .nil (.two .nil (.two .nil (.two (.two .nil (.one (.loop [(8, (.int .i64))] [18, 19, 20, 21, 22, 23, 24, 25, 26, 27, 28, 29, 30, 31, 32] (.two (.two .nil (.two .nil .nil)) (.two (.one (.join [] [22, 23, 24, 25, 26, 27, 28, 29, 30, 31, 32] false (.ord 56 [(0, 4094), (0, 4093), (2, 4089), (4, 4083), (8, 4071), (0, 4063), (32, 3999), (64, 3903), (128, 3711), (272, 3311), (1023, 3070), (2047, 511)] (.o 0 (.o 1 (.o 2 (.o 3 (.o 4 (.o 5 (.o 6 (.o 7 (.o 8 (.o 9 (.o 10 (.o 11 .done))))))))))))))) .nil))))) (.two .nil (.two (.two .nil (.one (.loop [(9, .sl), (10, (.int .i64))] [11, 12, 36, 37, 38, 39, 40, 41, 42, 43, 44, 45, 46, 47, 48, 49, 50, 51, 52, 53, 54, 55, 56, 57, 58, 59, 60, 61, 62, 63, 64, 65, 66, 67, 68, 69, 70, 71] (.two (.two .nil (.two .nil .nil)) (.two (.one (.two .nil (.two .nil (.two (.two .nil (.one (.loop [(9, .sl), (11, (.int .i64)), (12, (.int .i64))] [48, 49, 50, 51, 52, 53, 54, 55, 56, 57, 58, 59, 60, 61, 62, 63, 64, 65, 66] (.two (.two .nil (.two .nil .nil)) (.two (.one (.two .nil (.two .nil (.join [(9, .sl), (11, (.int .i64))] [60, 61, 62, 63, 64, 65, 66] false (.two (.two .nil .nil) .nil))))) .nil))))) .nil)))) .nil))))) (.two .nil .nil))))))))
theorem Cf56_palaverref09_divide_ok : Cf56_palaverref09_divide.Ok := mkC_ok mixed tysOk zerosOk eqsOk ⟨Sf64_palaverref09_trim, Sf75_palaverref09_plus, Sf79_palaverref09_cmp, Sf83_palaverref09_minus, trivial⟩ trivial
theorem Ef56_palaverref09_divide (x : (Sl × Sl)) : evF Cf56_palaverref09_divide Try.f56 75 (.pair .sl .sl) (.tup (.pair .sl .sl)) Af56_palaverref09_divide x = f56_palaverref09_divide x.1 x.2 := by kernel_rfl
theorem Sf56_palaverref09_divide : SoundF Try.prog 56 ⟨(.pair .sl .sl), (.tup (.pair .sl .sl)), fun x => f56_palaverref09_divide x.1 x.2⟩ :=
  soundF_of Cf56_palaverref09_divide_ok Try.func56 (by kernel_rfl) (by kernel_rfl) Ef56_palaverref09_divide
noncomputable def Cf57_palaverref09_made : Ctx := mkC Try.prog tys zeros eqs [(64, ⟨.sl, .sl, fun x => f64_palaverref09_trim x⟩)] []
/-- palaverpalaverref09.made -/
noncomputable def f57_palaverref09_made (x0 : Sl) (x1 : Bool) : M ((Bool × ByteArray) × Int) :=
  bnd (newC 23 [.bool false, .string (ByteArray.mk #[])]) fun (p1 : Addr) =>
  bnd (f64_palaverref09_trim x0) fun (r2 : Sl) =>
  cnd (decide ((r2.len : Int) > (4096 : Int))) (
  bnd (wrs p1 0 [.bool false, .string (ByteArray.mk #[])]) fun _ =>
  bnd (ld (.agg (.pair .bool .str)) p1) fun (v3 : (Bool × ByteArray)) =>
  ret (v3, (92 : Int))) (
  bnd (runV Try.prog .str (convert 61 9 (.slice r2.a r2.len r2.cap))) fun (v4 : ByteArray) =>
  bnd (wrs p1 0 [.bool (cond x1 (decide ((r2.len : Int) > (0 : Int))) false), .string v4]) fun _ =>
  bnd (ld (.agg (.pair .bool .str)) p1) fun (v5 : (Bool × ByteArray)) =>
  ret (v5, (0 : Int)))
noncomputable def Af57_palaverref09_made : Ann := (.two .nil (.two .nil (.two (.two .nil (.two (.two .nil .nil) .nil)) (.two .nil .nil))))
theorem Cf57_palaverref09_made_ok : Cf57_palaverref09_made.Ok := mkC_ok mixed tysOk zerosOk eqsOk ⟨Sf64_palaverref09_trim, trivial⟩ trivial
theorem Ef57_palaverref09_made (x : (Sl × Bool)) : evF Cf57_palaverref09_made Try.f57 21 (.pair .sl .bool) (.tup (.pair (.agg (.pair .bool .str)) (.int .i64))) Af57_palaverref09_made x = f57_palaverref09_made x.1 x.2 := by kernel_rfl
theorem Sf57_palaverref09_made : SoundF Try.prog 57 ⟨(.pair .sl .bool), (.tup (.pair (.agg (.pair .bool .str)) (.int .i64))), fun x => f57_palaverref09_made x.1 x.2⟩ :=
  soundF_of Cf57_palaverref09_made_ok Try.func57 (by kernel_rfl) (by kernel_rfl) Ef57_palaverref09_made
noncomputable def Cf17_palaverref09_Quo : Ctx := mkC Try.prog tys zeros eqs [(55, ⟨(.pair (.agg (.pair .bool .str)) (.agg (.pair .bool .str))), (.int .i64), fun x => f55_palaverref09_both x.1 x.2⟩), (56, ⟨(.pair .sl .sl), (.tup (.pair .sl .sl)), fun x => f56_palaverref09_divide x.1 x.2⟩), (57, ⟨(.pair .sl .bool), (.tup (.pair (.agg (.pair .bool .str)) (.int .i64))), fun x => f57_palaverref09_made x.1 x.2⟩)] []
/-- palaverpalaverref09.Quo -/
noncomputable def f17_palaverref09_Quo (x0 : (Bool × ByteArray)) (x1 : (Bool × ByteArray)) : M ((Bool × ByteArray) × ((Bool × ByteArray) × Int)) :=
  bnd (newC 23 [.bool x0.1, .string x0.2]) fun (p1 : Addr) =>
  bnd (newC 23 [.bool x1.1, .string x1.2]) fun (p2 : Addr) =>
  bnd (newC 23 [.bool false, .string (ByteArray.mk #[])]) fun (p3 : Addr) =>
  bnd (newC 23 [.bool false, .string (ByteArray.mk #[])]) fun (p4 : Addr) =>
  bnd (ld (.agg (.pair .bool .str)) p1) fun (v5 : (Bool × ByteArray)) =>
  bnd (ld (.agg (.pair .bool .str)) p2) fun (v6 : (Bool × ByteArray)) =>
  bnd (f55_palaverref09_both v5 v6) fun (r7 : Int) =>
  bnd (
  cnd (r7 == (0 : Int)) (
  bnd (ld .str (Addr.add p2 1)) fun (v8 : ByteArray) =>
  ret ((ByteArray.size v8 : Int) == (0 : Int))) (
  ret false)) fun (b9 : Bool) =>
  bnd (
  cnd b9 (
  ret (90 : Int)) (
  ret r7)) fun (s10 : Int) =>
  cnd (s10 != (0 : Int)) (
  bnd (wrs p3 0 [.bool false, .string (ByteArray.mk #[])]) fun _ =>
  bnd (wrs p4 0 [.bool false, .string (ByteArray.mk #[])]) fun _ =>
  bnd (ld (.agg (.pair .bool .str)) p3) fun (v11 : (Bool × ByteArray)) =>
  bnd (ld (.agg (.pair .bool .str)) p4) fun (v12 : (Bool × ByteArray)) =>
  ret (v11, v12, s10)) (
  bnd (ld .str (Addr.add p1 1)) fun (v13 : ByteArray) =>
  bnd (runV Try.prog .sl (convert 9 61 (.string v13))) fun (v14 : Sl) =>
  bnd (ld .str (Addr.add p2 1)) fun (v15 : ByteArray) =>
  bnd (runV Try.prog .sl (convert 9 61 (.string v15))) fun (v16 : Sl) =>
  bnd (f56_palaverref09_divide v14 v16) fun (r17 : (Sl × Sl)) =>
  bnd (ld .bool (Addr.add p1 0)) fun (v18 : Bool) =>
  bnd (ld .bool (Addr.add p2 0)) fun (v19 : Bool) =>
  bnd (f57_palaverref09_made r17.1 (!(v18 == v19))) fun (r20 : ((Bool × ByteArray) × Int)) =>
  bnd (newC 23 [.bool false, .string (ByteArray.mk #[])]) fun (p21 : Addr) =>
  bnd (wrs p21 0 [.bool r20.1.1, .string r20.1.2]) fun _ =>
  bnd (ld .bool (Addr.add p1 0)) fun (v22 : Bool) =>
  bnd (f57_palaverref09_made r17.2 v22) fun (r23 : ((Bool × ByteArray) × Int)) =>
  bnd (newC 23 [.bool false, .string (ByteArray.mk #[])]) fun (p24 : Addr) =>
  bnd (wrs p24 0 [.bool r23.1.1, .string r23.1.2]) fun _ =>
  bnd (
  bnd (ordM 17 9 (regionIn 9 Try.f17)) fun (o26 : List Nat) =>
  bnd (ld (.agg (.pair .bool .str)) p21) fun (v27 : (Bool × ByteArray)) =>
  bnd (ld (.agg (.pair .bool .str)) p24) fun (v28 : (Bool × ByteArray)) =>
  bnd (wrs p3 0 [.bool v27.1, .string v27.2]) fun _ =>
  bnd (
  bnd (chk (.agg (.pair .bool .str)) p24 v28) fun _ =>
  ret ()) fun _ =>
  bnd (wrs p4 0 [.bool v28.1, .string v28.2]) fun _ =>
  bnd (ret ()) fun _ =>
  ret (0 : Int)) fun (s25 : Int) =>
  bnd (ld (.agg (.pair .bool .str)) p3) fun (v29 : (Bool × ByteArray)) =>
  bnd (ld (.agg (.pair .bool .str)) p4) fun (v30 : (Bool × ByteArray)) =>
  ret (v29, v30, s25))
noncomputable def Af17_palaverref09_Quo : Ann := (.two .nil (.two .nil (.two (.two .nil (.join [(7, (.int .i64))] [] false (.two .nil .nil))) (.two (.two .nil (.two (.two .nil .nil) .nil)) (.two .nil (.two .nil (.two .nil (.two (.join [(6, (.int .i64))] [57, 58] false (.ord 17 [(0, 30), (0, 29), (1, 26), (7, 21), (15, 15)] (.o 0 (.o 1 (.o 2 (.o 3 (.o 4 .done))))))) .nil))))))))
theorem Cf17_palaverref09_Quo_ok : Cf17_palaverref09_Quo.Ok := mkC_ok mixed tysOk zerosOk eqsOk ⟨Sf55_palaverref09_both, Sf56_palaverref09_divide, Sf57_palaverref09_made, trivial⟩ trivial
theorem Ef17_palaverref09_Quo (x : ((Bool × ByteArray) × (Bool × ByteArray))) : evF Cf17_palaverref09_Quo Try.f17 59 (.pair (.agg (.pair .bool .str)) (.agg (.pair .bool .str))) (.tup (.pair (.agg (.pair .bool .str)) (.pair (.agg (.pair .bool .str)) (.int .i64)))) Af17_palaverref09_Quo x = f17_palaverref09_Quo x.1 x.2 := by kernel_rfl
theorem Sf17_palaverref09_Quo : SoundF Try.prog 17 ⟨(.pair (.agg (.pair .bool .str)) (.agg (.pair .bool .str))), (.tup (.pair (.agg (.pair .bool .str)) (.pair (.agg (.pair .bool .str)) (.int .i64)))), fun x => f17_palaverref09_Quo x.1 x.2⟩ :=
  soundF_of Cf17_palaverref09_Quo_ok Try.func17 (by kernel_rfl) (by kernel_rfl) Ef17_palaverref09_Quo
noncomputable def Cf40_palaverref09_Of : Ctx := mkC Try.prog tys zeros eqs [] []
/-- palaverpalaverref09.Of -/
noncomputable def f40_palaverref09_Of (x0 : Int) : M (Bool × ByteArray) :=
  bnd (newC 23 [.bool false, .string (ByteArray.mk #[])]) fun (p1 : Addr) =>
  bnd (
  cnd (decide (x0 < (0 : Int))) (
  ret (IntKind.wrap .u64 (0 - (IntKind.wrap .u64 x0)))) (
  ret (IntKind.wrap .u64 x0))) fun (s2 : Int) =>
  loopM (fun (s3 : (Sl × Int)) =>
  cnd (decide (s3.2 > (0 : Int))) (
  bnd (runV Try.prog .sl (Instr.buildSlice 61 1 #[(0, .int .u8 (IntKind.wrap .u8 (Int.tmod s3.2 (256 : Int))))])) fun (v4 : Sl) =>
  bnd (runV Try.prog .sl (Builtin.append_ #[61, 61] 61 #[.slice s3.1.a s3.1.len s3.1.cap, .slice v4.a v4.len v4.cap])) fun (v5 : Sl) =>
  ret (Sum.inl (v5, (IntKind.wrap .u64 (Int.tdiv s3.2 (256 : Int)))))) (
  bnd (
  bnd (runV Try.prog .str (convert 61 9 (.slice s3.1.a s3.1.len s3.1.cap))) fun (v6 : ByteArray) =>
  bnd (wrs p1 0 [.bool (decide (x0 < (0 : Int))), .string v6]) fun _ =>
  bnd (ld (.agg (.pair .bool .str)) p1) fun (v7 : (Bool × ByteArray)) =>
  ret v7) fun r8 =>
  ret (Sum.inr r8))) ((Sl.mk none 0 0), s2)
noncomputable def Af40_palaverref09_Of : Ann := (.two .nil (.two .nil (.two .nil (.two (.two .nil (.join [(4, (.int .u64))] [9, 10] false (.two .nil .nil))) (.two (.one (.loop [(3, .sl), (4, (.int .u64))] [11, 12, 13, 14, 15, 16, 17, 18, 19, 20] (.two (.two .nil (.two .nil .nil)) (.one (.two .nil .nil))))) (.two .nil .nil))))))
theorem Cf40_palaverref09_Of_ok : Cf40_palaverref09_Of.Ok := mkC_ok mixed tysOk zerosOk eqsOk trivial trivial
theorem Ef40_palaverref09_Of (x : Int) : evF Cf40_palaverref09_Of Try.f40 26 (.int .i64) (.agg (.pair .bool .str)) Af40_palaverref09_Of x = f40_palaverref09_Of x := by kernel_rfl
theorem Sf40_palaverref09_Of : SoundF Try.prog 40 ⟨(.int .i64), (.agg (.pair .bool .str)), fun x => f40_palaverref09_Of x⟩ :=
  soundF_of Cf40_palaverref09_Of_ok Try.func40 (by kernel_rfl) (by kernel_rfl) Ef40_palaverref09_Of
noncomputable def Cf51_palaverref09_add : Ctx := mkC Try.prog tys zeros eqs [(57, ⟨(.pair .sl .bool), (.tup (.pair (.agg (.pair .bool .str)) (.int .i64))), fun x => f57_palaverref09_made x.1 x.2⟩), (75, ⟨(.pair .sl .sl), .sl, fun x => f75_palaverref09_plus x.1 x.2⟩), (79, ⟨(.pair .sl .sl), (.int .i64), fun x => f79_palaverref09_cmp x.1 x.2⟩), (83, ⟨(.pair .sl .sl), .sl, fun x => f83_palaverref09_minus x.1 x.2⟩)] []
/-- palaverpalaverref09.add -/
noncomputable def f51_palaverref09_add (x0 : (Bool × ByteArray)) (x1 : (Bool × ByteArray)) : M ((Bool × ByteArray) × Int) :=
  bnd (newC 23 [.bool x0.1, .string x0.2]) fun (p1 : Addr) =>
  bnd (newC 23 [.bool x1.1, .string x1.2]) fun (p2 : Addr) =>
  bnd (newC 23 [.bool false, .string (ByteArray.mk #[])]) fun (p3 : Addr) =>
  bnd (ld .str (Addr.add p1 1)) fun (v4 : ByteArray) =>
  bnd (runV Try.prog .sl (convert 9 61 (.string v4))) fun (v5 : Sl) =>
  bnd (ld .str (Addr.add p2 1)) fun (v6 : ByteArray) =>
  bnd (runV Try.prog .sl (convert 9 61 (.string v6))) fun (v7 : Sl) =>
  bnd (ld .bool (Addr.add p1 0)) fun (v8 : Bool) =>
  bnd (ld .bool (Addr.add p2 0)) fun (v9 : Bool) =>
  cnd (v8 == v9) (
  bnd (
  bnd (ordM 51 4 (regionIn 4 Try.f51)) fun (o11 : List Nat) =>
  bnd (ld .bool (Addr.add p1 0)) fun (v12 : Bool) =>
  bnd (f75_palaverref09_plus v5 v7) fun (r13 : Sl) =>
  bnd (
  bnd (chk .bool (Addr.add p1 0) v12) fun _ =>
  ret ()) fun _ =>
  bnd (f57_palaverref09_made r13 v12) fun (r14 : ((Bool × ByteArray) × Int)) =>
  bnd (ret ()) fun _ =>
  bnd (wrs p3 0 [.bool r14.1.1, .string r14.1.2]) fun _ =>
  bnd (ret ()) fun _ =>
  ret r14.2) fun (s10 : Int) =>
  bnd (ld (.agg (.pair .bool .str)) p3) fun (v15 : (Bool × ByteArray)) =>
  ret (v15, s10)) (
  bnd (f79_palaverref09_cmp v5 v7) fun (r16 : Int) =>
  cnd (decide (r16 ≥ (0 : Int))) (
  bnd (
  bnd (ordM 51 6 (regionIn 6 Try.f51)) fun (o18 : List Nat) =>
  bnd (ld .bool (Addr.add p1 0)) fun (v19 : Bool) =>
  bnd (f83_palaverref09_minus v5 v7) fun (r20 : Sl) =>
  bnd (
  bnd (chk .bool (Addr.add p1 0) v19) fun _ =>
  ret ()) fun _ =>
  bnd (f57_palaverref09_made r20 v19) fun (r21 : ((Bool × ByteArray) × Int)) =>
  bnd (ret ()) fun _ =>
  bnd (wrs p3 0 [.bool r21.1.1, .string r21.1.2]) fun _ =>
  bnd (ret ()) fun _ =>
  ret r21.2) fun (s17 : Int) =>
  bnd (ld (.agg (.pair .bool .str)) p3) fun (v22 : (Bool × ByteArray)) =>
  ret (v22, s17)) (
  bnd (
  bnd (ordM 51 7 (regionIn 7 Try.f51)) fun (o24 : List Nat) =>
  bnd (ld .bool (Addr.add p2 0)) fun (v25 : Bool) =>
  bnd (f83_palaverref09_minus v7 v5) fun (r26 : Sl) =>
  bnd (
  bnd (chk .bool (Addr.add p2 0) v25) fun _ =>
  ret ()) fun _ =>
  bnd (f57_palaverref09_made r26 v25) fun (r27 : ((Bool × ByteArray) × Int)) =>
  bnd (ret ()) fun _ =>
  bnd (wrs p3 0 [.bool r27.1.1, .string r27.1.2]) fun _ =>
  bnd (ret ()) fun _ =>
  ret r27.2) fun (s23 : Int) =>
  bnd (ld (.agg (.pair .bool .str)) p3) fun (v28 : (Bool × ByteArray)) =>
  ret (v28, s23)))
noncomputable def Af51_palaverref09_add : Ann := (.two .nil (.two .nil (.two .nil (.two (.two .nil (.two (.two (.join [(5, (.int .i64))] [19, 20, 21, 22, 23, 24, 25, 26] false (.ord 51 [(0, 1022), (0, 1021), (3, 1016), (0, 1015), (8, 999), (20, 971), (32, 927), (32, 863), (255, 703), (511, 383)] (.o 0 (.o 1 (.o 3 (.o 4 (.o 2 (.o 5 (.o 6 (.o 7 (.o 8 (.o 9 .done)))))))))))) .nil) .nil)) (.two (.two .nil (.two (.two (.join [(5, (.int .i64))] [31, 32, 33, 34, 35, 36, 37, 38] false (.ord 51 [(0, 1022), (0, 1021), (3, 1016), (0, 1015), (8, 999), (20, 971), (32, 927), (32, 863), (255, 703), (511, 383)] (.o 0 (.o 1 (.o 3 (.o 4 (.o 2 (.o 5 (.o 6 (.o 7 (.o 8 (.o 9 .done)))))))))))) .nil) .nil)) (.two (.join [(5, (.int .i64))] [39, 40, 41, 42, 43, 44, 45, 46] false (.ord 51 [(0, 1022), (0, 1021), (3, 1016), (0, 1015), (8, 999), (20, 971), (32, 927), (32, 863), (255, 703), (511, 383)] (.o 0 (.o 1 (.o 3 (.o 4 (.o 2 (.o 5 (.o 6 (.o 7 (.o 8 (.o 9 .done)))))))))))) .nil))))))
theorem Cf51_palaverref09_add_ok : Cf51_palaverref09_add.Ok := mkC_ok mixed tysOk zerosOk eqsOk ⟨Sf57_palaverref09_made, Sf75_palaverref09_plus, Sf79_palaverref09_cmp, Sf83_palaverref09_minus, trivial⟩ trivial
theorem Ef51_palaverref09_add (x : ((Bool × ByteArray) × (Bool × ByteArray))) : evF Cf51_palaverref09_add Try.f51 47 (.pair (.agg (.pair .bool .str)) (.agg (.pair .bool .str))) (.tup (.pair (.agg (.pair .bool .str)) (.int .i64))) Af51_palaverref09_add x = f51_palaverref09_add x.1 x.2 := by kernel_rfl
theorem Sf51_palaverref09_add : SoundF Try.prog 51 ⟨(.pair (.agg (.pair .bool .str)) (.agg (.pair .bool .str))), (.tup (.pair (.agg (.pair .bool .str)) (.int .i64))), fun x => f51_palaverref09_add x.1 x.2⟩ :=
  soundF_of Cf51_palaverref09_add_ok Try.func51 (by kernel_rfl) (by kernel_rfl) Ef51_palaverref09_add
noncomputable def Cf15_palaverref09_Div : Ctx := mkC Try.prog tys zeros eqs [(17, ⟨(.pair (.agg (.pair .bool .str)) (.agg (.pair .bool .str))), (.tup (.pair (.agg (.pair .bool .str)) (.pair (.agg (.pair .bool .str)) (.int .i64)))), fun x => f17_palaverref09_Quo x.1 x.2⟩), (40, ⟨(.int .i64), (.agg (.pair .bool .str)), fun x => f40_palaverref09_Of x⟩), (51, ⟨(.pair (.agg (.pair .bool .str)) (.agg (.pair .bool .str))), (.tup (.pair (.agg (.pair .bool .str)) (.int .i64))), fun x => f51_palaverref09_add x.1 x.2⟩)] []
/-- palaverpalaverref09.Div -/
noncomputable def f15_palaverref09_Div (x0 : (Bool × ByteArray)) (x1 : (Bool × ByteArray)) : M ((Bool × ByteArray) × ((Bool × ByteArray) × Int)) :=
  bnd (newC 23 [.bool x0.1, .string x0.2]) fun (p1 : Addr) =>
  bnd (newC 23 [.bool x1.1, .string x1.2]) fun (p2 : Addr) =>
  bnd (newC 23 [.bool false, .string (ByteArray.mk #[])]) fun (p3 : Addr) =>
  bnd (newC 23 [.bool false, .string (ByteArray.mk #[])]) fun (p4 : Addr) =>
  bnd (ld (.agg (.pair .bool .str)) p1) fun (v5 : (Bool × ByteArray)) =>
  bnd (ld (.agg (.pair .bool .str)) p2) fun (v6 : (Bool × ByteArray)) =>
  bnd (f17_palaverref09_Quo v5 v6) fun (r7 : ((Bool × ByteArray) × ((Bool × ByteArray) × Int))) =>
  bnd (newC 23 [.bool false, .string (ByteArray.mk #[])]) fun (p8 : Addr) =>
  bnd (newC 23 [.bool false, .string (ByteArray.mk #[])]) fun (p9 : Addr) =>
  bnd (wrs p8 0 [.bool r7.1.1, .string r7.1.2]) fun _ =>
  bnd (wrs p9 0 [.bool r7.2.1.1, .string r7.2.1.2]) fun _ =>
  bnd (
  cnd (r7.2.2 != (0 : Int)) (
  ret true) (
  bnd (ld .str (Addr.add p9 1)) fun (v10 : ByteArray) =>
  ret ((ByteArray.size v10 : Int) == (0 : Int)))) fun (b11 : Bool) =>
  bnd (
  cnd b11 (
  ret true) (
  bnd (ld .bool (Addr.add p9 0)) fun (v12 : Bool) =>
  bnd (ld .bool (Addr.add p2 0)) fun (v13 : Bool) =>
  ret (v12 == v13))) fun (b14 : Bool) =>
  cnd b14 (
  bnd (
  bnd (ordM 15 3 (regionIn 3 Try.f15)) fun (o16 : List Nat) =>
  bnd (ld (.agg (.pair .bool .str)) p8) fun (v17 : (Bool × ByteArray)) =>
  bnd (ld (.agg (.pair .bool .str)) p9) fun (v18 : (Bool × ByteArray)) =>
  bnd (wrs p3 0 [.bool v17.1, .string v17.2]) fun _ =>
  bnd (
  bnd (chk (.agg (.pair .bool .str)) p9 v18) fun _ =>
  ret ()) fun _ =>
  bnd (wrs p4 0 [.bool v18.1, .string v18.2]) fun _ =>
  bnd (ret ()) fun _ =>
  ret r7.2.2) fun (s15 : Int) =>
  bnd (ld (.agg (.pair .bool .str)) p3) fun (v19 : (Bool × ByteArray)) =>
  bnd (ld (.agg (.pair .bool .str)) p4) fun (v20 : (Bool × ByteArray)) =>
  ret (v19, v20, s15)) (
  bnd (
  bnd (ordM 15 4 (regionIn 4 Try.f15)) fun (o22 : List Nat) =>
  bnd (ld (.agg (.pair .bool .str)) p8) fun (v23 : (Bool × ByteArray)) =>
  bnd (f40_palaverref09_Of (-1 : Int)) fun (r24 : (Bool × ByteArray)) =>
  bnd (
  bnd (chk (.agg (.pair .bool .str)) p8 v23) fun _ =>
  ret ()) fun _ =>
  bnd (f51_palaverref09_add v23 r24) fun (r25 : ((Bool × ByteArray) × Int)) =>
  bnd (ret ()) fun _ =>
  bnd (wrs p8 0 [.bool r25.1.1, .string r25.1.2]) fun _ =>
  bnd (ret ()) fun _ =>
  ret r25.2) fun (s21 : Int) =>
  cnd (s21 != (0 : Int)) (
  bnd (wrs p3 0 [.bool false, .string (ByteArray.mk #[])]) fun _ =>
  bnd (wrs p4 0 [.bool false, .string (ByteArray.mk #[])]) fun _ =>
  bnd (ld (.agg (.pair .bool .str)) p3) fun (v26 : (Bool × ByteArray)) =>
  bnd (ld (.agg (.pair .bool .str)) p4) fun (v27 : (Bool × ByteArray)) =>
  ret (v26, v27, s21)) (
  bnd (ld (.agg (.pair .bool .str)) p9) fun (v28 : (Bool × ByteArray)) =>
  bnd (ld (.agg (.pair .bool .str)) p2) fun (v29 : (Bool × ByteArray)) =>
  bnd (f51_palaverref09_add v28 v29) fun (r30 : ((Bool × ByteArray) × Int)) =>
  bnd (wrs p9 0 [.bool r30.1.1, .string r30.1.2]) fun _ =>
  bnd (
  bnd (ordM 15 8 (regionIn 8 Try.f15)) fun (o32 : List Nat) =>
  bnd (ld (.agg (.pair .bool .str)) p8) fun (v33 : (Bool × ByteArray)) =>
  bnd (ld (.agg (.pair .bool .str)) p9) fun (v34 : (Bool × ByteArray)) =>
  bnd (wrs p3 0 [.bool v33.1, .string v33.2]) fun _ =>
  bnd (
  bnd (chk (.agg (.pair .bool .str)) p9 v34) fun _ =>
  ret ()) fun _ =>
  bnd (wrs p4 0 [.bool v34.1, .string v34.2]) fun _ =>
  bnd (ret ()) fun _ =>
  ret (0 : Int)) fun (s31 : Int) =>
  bnd (ld (.agg (.pair .bool .str)) p3) fun (v35 : (Bool × ByteArray)) =>
  bnd (ld (.agg (.pair .bool .str)) p4) fun (v36 : (Bool × ByteArray)) =>
  ret (v35, v36, s31)))
noncomputable def Af15_palaverref09_Div : Ann := (.two .nil (.two .nil (.two (.two .nil (.two (.two (.join [(6, (.int .i64))] [32, 33, 34] false (.ord 15 [(0, 62), (0, 61), (0, 59), (1, 54), (11, 45), (31, 27)] (.o 0 (.o 1 (.o 2 (.o 3 (.o 4 (.o 5 .done)))))))) .nil) .nil)) (.two (.join [(9, (.int .i64))] [35, 36, 37, 38, 39, 40] false (.ord 15 [(0, 254), (0, 253), (3, 248), (4, 243), (8, 231), (8, 215), (31, 175), (127, 95)] (.o 0 (.o 1 (.o 2 (.o 3 (.o 4 (.o 5 (.o 6 (.o 7 .done)))))))))) (.two (.two .nil (.two (.two .nil .nil) .nil)) (.two .nil (.two (.join [(6, (.int .i64))] [52, 53] false (.ord 15 [(0, 30), (0, 29), (1, 26), (7, 21), (15, 15)] (.o 0 (.o 1 (.o 2 (.o 3 (.o 4 .done))))))) .nil)))))))
theorem Cf15_palaverref09_Div_ok : Cf15_palaverref09_Div.Ok := mkC_ok mixed tysOk zerosOk eqsOk ⟨Sf17_palaverref09_Quo, Sf40_palaverref09_Of, Sf51_palaverref09_add, trivial⟩ trivial
theorem Ef15_palaverref09_Div (x : ((Bool × ByteArray) × (Bool × ByteArray))) : evF Cf15_palaverref09_Div Try.f15 54 (.pair (.agg (.pair .bool .str)) (.agg (.pair .bool .str))) (.tup (.pair (.agg (.pair .bool .str)) (.pair (.agg (.pair .bool .str)) (.int .i64)))) Af15_palaverref09_Div x = f15_palaverref09_Div x.1 x.2 := by kernel_rfl
theorem Sf15_palaverref09_Div : SoundF Try.prog 15 ⟨(.pair (.agg (.pair .bool .str)) (.agg (.pair .bool .str))), (.tup (.pair (.agg (.pair .bool .str)) (.pair (.agg (.pair .bool .str)) (.int .i64)))), fun x => f15_palaverref09_Div x.1 x.2⟩ :=
  soundF_of Cf15_palaverref09_Div_ok Try.func15 (by kernel_rfl) (by kernel_rfl) Ef15_palaverref09_Div
noncomputable def Cf19_palaverref09_Gcd : Ctx := mkC Try.prog tys zeros eqs [(55, ⟨(.pair (.agg (.pair .bool .str)) (.agg (.pair .bool .str))), (.int .i64), fun x => f55_palaverref09_both x.1 x.2⟩), (56, ⟨(.pair .sl .sl), (.tup (.pair .sl .sl)), fun x => f56_palaverref09_divide x.1 x.2⟩), (57, ⟨(.pair .sl .bool), (.tup (.pair (.agg (.pair .bool .str)) (.int .i64))), fun x => f57_palaverref09_made x.1 x.2⟩)] []
/-- palaverpalaverref09.Gcd -/
noncomputable def f19_palaverref09_Gcd (x0 : (Bool × ByteArray)) (x1 : (Bool × ByteArray)) : M ((Bool × ByteArray) × Int) :=
  bnd (newC 23 [.bool x0.1, .string x0.2]) fun (p1 : Addr) =>
  bnd (newC 23 [.bool x1.1, .string x1.2]) fun (p2 : Addr) =>
  bnd (newC 23 [.bool false, .string (ByteArray.mk #[])]) fun (p3 : Addr) =>
  bnd (ld (.agg (.pair .bool .str)) p1) fun (v4 : (Bool × ByteArray)) =>
  bnd (ld (.agg (.pair .bool .str)) p2) fun (v5 : (Bool × ByteArray)) =>
  bnd (f55_palaverref09_both v4 v5) fun (r6 : Int) =>
  cnd (r6 != (0 : Int)) (
  bnd (wrs p3 0 [.bool false, .string (ByteArray.mk #[])]) fun _ =>
  bnd (ld (.agg (.pair .bool .str)) p3) fun (v7 : (Bool × ByteArray)) =>
  ret (v7, r6)) (
  bnd (ld .str (Addr.add p1 1)) fun (v8 : ByteArray) =>
  bnd (runV Try.prog .sl (convert 9 61 (.string v8))) fun (v9 : Sl) =>
  bnd (ld .str (Addr.add p2 1)) fun (v10 : ByteArray) =>
  bnd (runV Try.prog .sl (convert 9 61 (.string v10))) fun (v11 : Sl) =>
  loopM (fun (s12 : (Sl × Sl)) =>
  cnd (decide ((s12.2.len : Int) > (0 : Int))) (
  bnd (f56_palaverref09_divide s12.1 s12.2) fun (r13 : (Sl × Sl)) =>
  ret (Sum.inl (s12.2, r13.2))) (
  bnd (
  bnd (f57_palaverref09_made s12.1 false) fun (r14 : ((Bool × ByteArray) × Int)) =>
  bnd (wrs p3 0 [.bool r14.1.1, .string r14.1.2]) fun _ =>
  bnd (ld (.agg (.pair .bool .str)) p3) fun (v15 : (Bool × ByteArray)) =>
  ret (v15, r14.2)) fun r16 =>
  ret (Sum.inr r16))) (v9, v11))
noncomputable def Af19_palaverref09_Gcd : Ann := (.two .nil (.two .nil (.two (.two .nil (.two (.two .nil .nil) .nil)) (.two .nil (.two .nil (.two (.one (.loop [(7, .sl), (8, .sl)] [9, 10, 24, 25, 26, 27, 28, 29, 30, 31, 32, 33, 34] (.two (.two .nil (.two .nil .nil)) (.one (.two .nil (.two .nil .nil)))))) (.two .nil .nil)))))))
theorem Cf19_palaverref09_Gcd_ok : Cf19_palaverref09_Gcd.Ok := mkC_ok mixed tysOk zerosOk eqsOk ⟨Sf55_palaverref09_both, Sf56_palaverref09_divide, Sf57_palaverref09_made, trivial⟩ trivial
theorem Ef19_palaverref09_Gcd (x : ((Bool × ByteArray) × (Bool × ByteArray))) : evF Cf19_palaverref09_Gcd Try.f19 39 (.pair (.agg (.pair .bool .str)) (.agg (.pair .bool .str))) (.tup (.pair (.agg (.pair .bool .str)) (.int .i64))) Af19_palaverref09_Gcd x = f19_palaverref09_Gcd x.1 x.2 := by kernel_rfl
theorem Sf19_palaverref09_Gcd : SoundF Try.prog 19 ⟨(.pair (.agg (.pair .bool .str)) (.agg (.pair .bool .str))), (.tup (.pair (.agg (.pair .bool .str)) (.int .i64))), fun x => f19_palaverref09_Gcd x.1 x.2⟩ :=
  soundF_of Cf19_palaverref09_Gcd_ok Try.func19 (by kernel_rfl) (by kernel_rfl) Ef19_palaverref09_Gcd
noncomputable def Cf3_palaverlaw09_LargeQuotients : Ctx := mkC Try.prog tys zeros eqs [(12, ⟨.unit, .bool, fun _ => f12_palaverlaw09_works⟩), (13, ⟨(.pair (.agg (.pair .bool .str)) (.agg (.pair .bool .str))), .bool, fun x => f13_palaverlaw09_far x.1 x.2⟩), (14, ⟨(.pair (.agg (.pair .bool .str)) (.agg (.pair .bool .str))), (.tup (.pair (.agg (.pair .bool .str)) (.pair (.agg (.pair .bool .str)) (.int .i64)))), fun x => f14_largeint_Div x.1 x.2⟩), (15, ⟨(.pair (.agg (.pair .bool .str)) (.agg (.pair .bool .str))), (.tup (.pair (.agg (.pair .bool .str)) (.pair (.agg (.pair .bool .str)) (.int .i64)))), fun x => f15_palaverref09_Div x.1 x.2⟩), (16, ⟨(.pair (.agg (.pair .bool .str)) (.agg (.pair .bool .str))), (.tup (.pair (.agg (.pair .bool .str)) (.pair (.agg (.pair .bool .str)) (.int .i64)))), fun x => f16_largeint_Quo x.1 x.2⟩), (17, ⟨(.pair (.agg (.pair .bool .str)) (.agg (.pair .bool .str))), (.tup (.pair (.agg (.pair .bool .str)) (.pair (.agg (.pair .bool .str)) (.int .i64)))), fun x => f17_palaverref09_Quo x.1 x.2⟩), (18, ⟨(.pair (.agg (.pair .bool .str)) (.agg (.pair .bool .str))), (.tup (.pair (.agg (.pair .bool .str)) (.int .i64))), fun x => f18_largeint_Gcd x.1 x.2⟩), (19, ⟨(.pair (.agg (.pair .bool .str)) (.agg (.pair .bool .str))), (.tup (.pair (.agg (.pair .bool .str)) (.int .i64))), fun x => f19_palaverref09_Gcd x.1 x.2⟩)] []
/-- palaverpalaverlaw09.LargeQuotients -/
noncomputable def f3_palaverlaw09_LargeQuotients (x0 : (Bool × ByteArray)) (x1 : (Bool × ByteArray)) : M Bool :=
  bnd (newC 23 [.bool x0.1, .string x0.2]) fun (p1 : Addr) =>
  bnd (newC 23 [.bool x1.1, .string x1.2]) fun (p2 : Addr) =>
  bnd f12_palaverlaw09_works fun (r3 : Bool) =>
  bnd (ld (.agg (.pair .bool .str)) p1) fun (v4 : (Bool × ByteArray)) =>
  bnd (ld (.agg (.pair .bool .str)) p2) fun (v5 : (Bool × ByteArray)) =>
  bnd (f13_palaverlaw09_far v4 v5) fun (r6 : Bool) =>
  cnd r6 (
  ret r3) (
  bnd (ld (.agg (.pair .bool .str)) p1) fun (v7 : (Bool × ByteArray)) =>
  bnd (ld (.agg (.pair .bool .str)) p2) fun (v8 : (Bool × ByteArray)) =>
  bnd (f14_largeint_Div v7 v8) fun (r9 : ((Bool × ByteArray) × ((Bool × ByteArray) × Int))) =>
  bnd (newC 23 [.bool false, .string (ByteArray.mk #[])]) fun (p10 : Addr) =>
  bnd (newC 23 [.bool false, .string (ByteArray.mk #[])]) fun (p11 : Addr) =>
  bnd (wrs p10 0 [.bool r9.1.1, .string r9.1.2]) fun _ =>
  bnd (wrs p11 0 [.bool r9.2.1.1, .string r9.2.1.2]) fun _ =>
  bnd (ld (.agg (.pair .bool .str)) p1) fun (v12 : (Bool × ByteArray)) =>
  bnd (ld (.agg (.pair .bool .str)) p2) fun (v13 : (Bool × ByteArray)) =>
  bnd (f15_palaverref09_Div v12 v13) fun (r14 : ((Bool × ByteArray) × ((Bool × ByteArray) × Int))) =>
  bnd (newC 23 [.bool false, .string (ByteArray.mk #[])]) fun (p15 : Addr) =>
  bnd (newC 23 [.bool false, .string (ByteArray.mk #[])]) fun (p16 : Addr) =>
  bnd (wrs p15 0 [.bool r14.1.1, .string r14.1.2]) fun _ =>
  bnd (wrs p16 0 [.bool r14.2.1.1, .string r14.2.1.2]) fun _ =>
  bnd (ld (.agg (.pair .bool .str)) p10) fun (v17 : (Bool × ByteArray)) =>
  bnd (ld (.agg (.pair .bool .str)) p15) fun (v18 : (Bool × ByteArray)) =>
  bnd (
  cnd ((v17.1 == v18.1) && (strEq v17.2 v18.2)) (
  bnd (ld (.agg (.pair .bool .str)) p11) fun (v19 : (Bool × ByteArray)) =>
  bnd (ld (.agg (.pair .bool .str)) p16) fun (v20 : (Bool × ByteArray)) =>
  ret ((v19.1 == v20.1) && (strEq v19.2 v20.2))) (
  ret false)) fun (b21 : Bool) =>
  bnd (ld (.agg (.pair .bool .str)) p1) fun (v22 : (Bool × ByteArray)) =>
  bnd (ld (.agg (.pair .bool .str)) p2) fun (v23 : (Bool × ByteArray)) =>
  bnd (f16_largeint_Quo v22 v23) fun (r24 : ((Bool × ByteArray) × ((Bool × ByteArray) × Int))) =>
  bnd (wrs p10 0 [.bool r24.1.1, .string r24.1.2]) fun _ =>
  bnd (wrs p11 0 [.bool r24.2.1.1, .string r24.2.1.2]) fun _ =>
  bnd (ld (.agg (.pair .bool .str)) p1) fun (v25 : (Bool × ByteArray)) =>
  bnd (ld (.agg (.pair .bool .str)) p2) fun (v26 : (Bool × ByteArray)) =>
  bnd (f17_palaverref09_Quo v25 v26) fun (r27 : ((Bool × ByteArray) × ((Bool × ByteArray) × Int))) =>
  bnd (wrs p15 0 [.bool r27.1.1, .string r27.1.2]) fun _ =>
  bnd (wrs p16 0 [.bool r27.2.1.1, .string r27.2.1.2]) fun _ =>
  bnd (ld (.agg (.pair .bool .str)) p10) fun (v28 : (Bool × ByteArray)) =>
  bnd (ld (.agg (.pair .bool .str)) p15) fun (v29 : (Bool × ByteArray)) =>
  bnd (
  cnd ((v28.1 == v29.1) && (strEq v28.2 v29.2)) (
  bnd (ld (.agg (.pair .bool .str)) p11) fun (v30 : (Bool × ByteArray)) =>
  bnd (ld (.agg (.pair .bool .str)) p16) fun (v31 : (Bool × ByteArray)) =>
  ret ((v30.1 == v31.1) && (strEq v30.2 v31.2))) (
  ret false)) fun (b32 : Bool) =>
  bnd (ld (.agg (.pair .bool .str)) p1) fun (v33 : (Bool × ByteArray)) =>
  bnd (ld (.agg (.pair .bool .str)) p2) fun (v34 : (Bool × ByteArray)) =>
  bnd (f18_largeint_Gcd v33 v34) fun (r35 : ((Bool × ByteArray) × Int)) =>
  bnd (wrs p10 0 [.bool r35.1.1, .string r35.1.2]) fun _ =>
  bnd (ld (.agg (.pair .bool .str)) p1) fun (v36 : (Bool × ByteArray)) =>
  bnd (ld (.agg (.pair .bool .str)) p2) fun (v37 : (Bool × ByteArray)) =>
  bnd (f19_palaverref09_Gcd v36 v37) fun (r38 : ((Bool × ByteArray) × Int)) =>
  bnd (wrs p15 0 [.bool r38.1.1, .string r38.1.2]) fun _ =>
  bnd (
  cnd (cond (cond r3 (cond b21 (r9.2.2 == r14.2.2) false) false) (cond b32 (r24.2.2 == r27.2.2) false) false) (
  bnd (ld (.agg (.pair .bool .str)) p10) fun (v39 : (Bool × ByteArray)) =>
  bnd (ld (.agg (.pair .bool .str)) p15) fun (v40 : (Bool × ByteArray)) =>
  ret ((v39.1 == v40.1) && (strEq v39.2 v40.2))) (
  ret false)) fun (b41 : Bool) =>
  ret (cond b41 (r35.2 == r38.2) false))
noncomputable def Af3_palaverlaw09_LargeQuotients : Ann := (.two .nil (.two .nil (.two .nil (.two (.two .nil (.two (.two .nil .nil) .nil)) (.two .nil (.two .nil (.two .nil (.two .nil (.two .nil (.two .nil (.two .nil (.two .nil (.two .nil .nil)))))))))))))
theorem Cf3_palaverlaw09_LargeQuotients_ok : Cf3_palaverlaw09_LargeQuotients.Ok := mkC_ok mixed tysOk zerosOk eqsOk ⟨Sf12_palaverlaw09_works, Sf13_palaverlaw09_far, Sf14_largeint_Div, Sf15_palaverref09_Div, Sf16_largeint_Quo, Sf17_palaverref09_Quo, Sf18_largeint_Gcd, Sf19_palaverref09_Gcd, trivial⟩ trivial
theorem Ef3_palaverlaw09_LargeQuotients (x : ((Bool × ByteArray) × (Bool × ByteArray))) : evF Cf3_palaverlaw09_LargeQuotients Try.f3 104 (.pair (.agg (.pair .bool .str)) (.agg (.pair .bool .str))) .bool Af3_palaverlaw09_LargeQuotients x = f3_palaverlaw09_LargeQuotients x.1 x.2 := by kernel_rfl
theorem Sf3_palaverlaw09_LargeQuotients : SoundF Try.prog 3 ⟨(.pair (.agg (.pair .bool .str)) (.agg (.pair .bool .str))), .bool, fun x => f3_palaverlaw09_LargeQuotients x.1 x.2⟩ :=
  soundF_of Cf3_palaverlaw09_LargeQuotients_ok Try.func3 (by kernel_rfl) (by kernel_rfl) Ef3_palaverlaw09_LargeQuotients
noncomputable def Gf61_palaverref09_value (x0 : Int) : Int :=
  (cond (cond (decide (x0 ≥ (48 : Int))) (decide (x0 ≤ (57 : Int))) false) (IntKind.wrap .i64 (IntKind.wrap .u8 (x0 - (48 : Int)))) (cond (cond (decide (x0 ≥ (65 : Int))) (decide (x0 ≤ (90 : Int))) false) (IntKind.wrap .i64 ((IntKind.wrap .i64 (IntKind.wrap .u8 (x0 - (65 : Int)))) + (10 : Int))) (-1 : Int)))
noncomputable def Cf61_palaverref09_value : Ctx := mkC Try.prog tys zeros eqs [] []
/-- palaverpalaverref09.value -/
noncomputable def f61_palaverref09_value (x0 : Int) : M Int :=
  cnd (cond (decide (x0 ≥ (48 : Int))) (decide (x0 ≤ (57 : Int))) false) (
  ret (IntKind.wrap .i64 (IntKind.wrap .u8 (x0 - (48 : Int))))) (
  cnd (cond (decide (x0 ≥ (65 : Int))) (decide (x0 ≤ (90 : Int))) false) (
  ret (IntKind.wrap .i64 ((IntKind.wrap .i64 (IntKind.wrap .u8 (x0 - (65 : Int)))) + (10 : Int)))) (
  ret (-1 : Int)))
noncomputable def Af61_palaverref09_value : Ann := (.two .nil (.two (.one (.two .nil (.two (.two .nil .nil) (.two .nil (.two (.two .nil .nil) .nil))))) (.two .nil .nil)))
theorem Cf61_palaverref09_value_ok : Cf61_palaverref09_value.Ok := mkC_ok mixed tysOk zerosOk eqsOk trivial trivial
theorem Ef61_palaverref09_value (x : Int) : evF Cf61_palaverref09_value Try.f61 24 (.int .u8) (.int .i64) Af61_palaverref09_value x = f61_palaverref09_value x := by kernel_rfl
theorem Sf61_palaverref09_value : SoundF Try.prog 61 ⟨(.int .u8), (.int .i64), fun x => f61_palaverref09_value x⟩ :=
  soundF_of Cf61_palaverref09_value_ok Try.func61 (by kernel_rfl) (by kernel_rfl) Ef61_palaverref09_value
theorem Hf61_palaverref09_value (x0 : Int) : f61_palaverref09_value x0 = ret (Gf61_palaverref09_value x0) := by
  simp only [f61_palaverref09_value, Gf61_palaverref09_value, bnd_ret, cnd_ret, bnd_cnd]
theorem Pf61_palaverref09_value : SoundP Try.prog 61 ⟨(.int .u8), (.int .i64), fun x => Gf61_palaverref09_value x⟩ := soundP_of Sf61_palaverref09_value fun x => Hf61_palaverref09_value x
noncomputable def Cf21_palaverref09_Parse : Ctx := mkC Try.prog tys zeros eqs [(57, ⟨(.pair .sl .bool), (.tup (.pair (.agg (.pair .bool .str)) (.int .i64))), fun x => f57_palaverref09_made x.1 x.2⟩)] [(61, ⟨(.int .u8), (.int .i64), fun x => Gf61_palaverref09_value x⟩)]
/-- palaverpalaverref09.Parse -/
noncomputable def f21_palaverref09_Parse (x0 : ByteArray) (x1 : Int) : M ((Bool × ByteArray) × Int) :=
  bnd (newC 23 [.bool false, .string (ByteArray.mk #[])]) fun (p1 : Addr) =>
  cnd (cond (decide (x1 < (2 : Int))) true (decide (x1 > (36 : Int)))) (
  bnd (wrs p1 0 [.bool false, .string (ByteArray.mk #[])]) fun _ =>
  bnd (ld (.agg (.pair .bool .str)) p1) fun (v2 : (Bool × ByteArray)) =>
  ret (v2, (1 : Int))) (
  bnd (
  cnd (decide ((ByteArray.size x0 : Int) > (0 : Int))) (
  bnd (ixS x0 (0 : Int)) fun (v3 : Int) =>
  ret (v3 == (45 : Int))) (
  ret false)) fun (b4 : Bool) =>
  bnd (
  cnd b4 (
  bnd (slcS x0 (some (1 : Int)) none) fun (v6 : ByteArray) =>
  ret v6) (
  ret x0)) fun (s5 : ByteArray) =>
  bnd (
  cnd ((ByteArray.size s5 : Int) == (0 : Int)) (
  ret true) (
  bnd (ixS s5 (0 : Int)) fun (v7 : Int) =>
  ret (cond (v7 == (48 : Int)) (cond b4 true (decide ((ByteArray.size s5 : Int) > (1 : Int)))) false))) fun (b8 : Bool) =>
  cnd b8 (
  bnd (wrs p1 0 [.bool false, .string (ByteArray.mk #[])]) fun _ =>
  bnd (ld (.agg (.pair .bool .str)) p1) fun (v9 : (Bool × ByteArray)) =>
  ret (v9, (93 : Int))) (
  loopM (fun (s10 : Int) =>
  cnd (decide (s10 < (ByteArray.size s5 : Int))) (
  bnd (ixS s5 s10) fun (v11 : Int) =>
  cnd (cond (decide ((Gf61_palaverref09_value v11) < (0 : Int))) true (decide ((Gf61_palaverref09_value v11) ≥ x1))) (
  bnd (wrs p1 0 [.bool false, .string (ByteArray.mk #[])]) fun _ =>
  bnd (
  bnd (ld (.agg (.pair .bool .str)) p1) fun (v12 : (Bool × ByteArray)) =>
  ret (v12, (93 : Int))) fun r13 =>
  ret (Sum.inr r13)) (
  ret (Sum.inl (IntKind.wrap .i64 (s10 + (1 : Int)))))) (
  bnd (
  loopM (fun (s14 : (Sl × Int)) =>
  cnd (decide (s14.2 < (ByteArray.size s5 : Int))) (
  bnd (ixS s5 s14.2) fun (v15 : Int) =>
  loopM (fun (s16 : (Int × Int)) =>
  cnd (decide (s16.2 < (s14.1.len : Int))) (
  bnd (ix 1 s14.1 s16.2) fun (p17 : Addr) =>
  bnd (ld (.int .u8) p17) fun (v18 : Int) =>
  bnd (ix 1 s14.1 s16.2) fun (p19 : Addr) =>
  bnd (wrs p19 0 [.int .u8 (IntKind.wrap .u8 (Int.tmod (IntKind.wrap .i64 ((IntKind.wrap .i64 ((IntKind.wrap .i64 v18) * x1)) + s16.1)) (256 : Int)))]) fun _ =>
  ret (Sum.inl ((IntKind.wrap .i64 (Int.tdiv (IntKind.wrap .i64 ((IntKind.wrap .i64 ((IntKind.wrap .i64 v18) * x1)) + s16.1)) (256 : Int))), (IntKind.wrap .i64 (s16.2 + (1 : Int)))))) (
  bnd (
  bnd (
  cnd (decide (s16.1 > (0 : Int))) (
  bnd (runV Try.prog .sl (Instr.buildSlice 61 1 #[(0, .int .u8 (IntKind.wrap .u8 s16.1))])) fun (v21 : Sl) =>
  bnd (runV Try.prog .sl (Builtin.append_ #[61, 61] 61 #[.slice s14.1.a s14.1.len s14.1.cap, .slice v21.a v21.len v21.cap])) fun (v22 : Sl) =>
  ret v22) (
  ret s14.1)) fun (s20 : Sl) =>
  cnd (decide ((s20.len : Int) > (4096 : Int))) (
  bnd (wrs p1 0 [.bool false, .string (ByteArray.mk #[])]) fun _ =>
  bnd (
  bnd (ld (.agg (.pair .bool .str)) p1) fun (v23 : (Bool × ByteArray)) =>
  ret (v23, (92 : Int))) fun r24 =>
  ret (Sum.inr r24)) (
  ret (Sum.inl (s20, (IntKind.wrap .i64 (s14.2 + (1 : Int))))))) fun r25 =>
  ret (Sum.inr r25))) ((Gf61_palaverref09_value v15), (0 : Int))) (
  bnd (
  bnd (f57_palaverref09_made s14.1 b4) fun (r26 : ((Bool × ByteArray) × Int)) =>
  bnd (wrs p1 0 [.bool r26.1.1, .string r26.1.2]) fun _ =>
  bnd (ld (.agg (.pair .bool .str)) p1) fun (v27 : (Bool × ByteArray)) =>
  ret (v27, r26.2)) fun r28 =>
  ret (Sum.inr r28))) ((Sl.mk none 0 0), (0 : Int))) fun r29 =>
  ret (Sum.inr r29))) (0 : Int)))
noncomputable def Af21_palaverref09_Parse : Ann := (.two .nil (.two (.two .nil (.two (.two .nil .nil) .nil)) (.two .nil (.two (.two .nil (.join [(0, .str)] [30, 31] false (.two .nil .nil))) (.two (.two .nil (.two (.two .nil .nil) .nil)) (.two (.two .nil (.one (.loop [(7, (.int .i64))] [5, 8, 49, 50, 51, 52, 53, 54, 55, 56, 57, 58, 59, 60, 61, 62, 63, 64, 65, 66] (.two (.two .nil (.two .nil .nil)) (.two (.one (.two .nil (.two .nil (.two (.two .nil .nil) .nil)))) .nil))))) (.two .nil (.two (.two .nil (.one (.loop [(9, .sl), (10, (.int .i64))] [5, 11, 12, 13, 67, 68, 69, 70, 71, 72, 73, 74, 75, 76, 77, 78, 79, 80, 81, 82, 83, 84, 85, 86, 87, 88, 89, 90, 91, 92, 93, 94, 95, 96, 97, 98, 99, 100, 101, 102, 103, 104, 105, 106, 107, 108, 109, 110] (.two (.two .nil (.two .nil .nil)) (.two (.one (.two .nil (.two (.two .nil (.one (.loop [(11, (.int .i64)), (12, (.int .i64))] [13, 77, 78, 79, 80, 81, 82, 83, 84, 85, 86, 87, 88, 89, 90, 91, 92, 93, 94, 95, 96, 97, 98, 99] (.two (.two .nil (.two .nil .nil)) (.two (.one (.two .nil (.two .nil .nil))) .nil))))) (.two (.two .nil (.join [(9, .sl)] [102, 103, 104, 105, 106] false (.two .nil .nil))) (.two .nil (.two (.two .nil .nil) .nil)))))) .nil))))) (.two .nil .nil)))))))))
theorem Cf21_palaverref09_Parse_ok : Cf21_palaverref09_Parse.Ok := mkC_ok mixed tysOk zerosOk eqsOk ⟨Sf57_palaverref09_made, trivial⟩ ⟨Pf61_palaverref09_value, trivial⟩
theorem Ef21_palaverref09_Parse (x : (ByteArray × Int)) : evF Cf21_palaverref09_Parse Try.f21 116 (.pair .str (.int .i64)) (.tup (.pair (.agg (.pair .bool .str)) (.int .i64))) Af21_palaverref09_Parse x = f21_palaverref09_Parse x.1 x.2 := by kernel_rfl
theorem Sf21_palaverref09_Parse : SoundF Try.prog 21 ⟨(.pair .str (.int .i64)), (.tup (.pair (.agg (.pair .bool .str)) (.int .i64))), fun x => f21_palaverref09_Parse x.1 x.2⟩ :=
  soundF_of Cf21_palaverref09_Parse_ok Try.func21 (by kernel_rfl) (by kernel_rfl) Ef21_palaverref09_Parse
noncomputable def Cf23_palaverref09_Text : Ctx := mkC Try.prog tys zeros eqs [(43, ⟨(.agg (.pair .bool .str)), (.int .i64), fun x => f43_palaverref09_Check x⟩), (64, ⟨.sl, .sl, fun x => f64_palaverref09_trim x⟩)] []
/-- palaverpalaverref09.Text -/
noncomputable def f23_palaverref09_Text (x0 : (Bool × ByteArray)) (x1 : Int) : M (ByteArray × Int) :=
  bnd (newC 23 [.bool x0.1, .string x0.2]) fun (p1 : Addr) =>
  bnd (ld (.agg (.pair .bool .str)) p1) fun (v2 : (Bool × ByteArray)) =>
  bnd (f43_palaverref09_Check v2) fun (r3 : Int) =>
  cnd (r3 != (0 : Int)) (
  ret ((ByteArray.mk #[]), r3)) (
  cnd (cond (decide (x1 < (2 : Int))) true (decide (x1 > (36 : Int)))) (
  ret ((ByteArray.mk #[]), (1 : Int))) (
  bnd (ld .str (Addr.add p1 1)) fun (v4 : ByteArray) =>
  bnd (runV Try.prog .sl (convert 9 61 (.string v4))) fun (v5 : Sl) =>
  loopM (fun (s6 : (Sl × Sl)) =>
  cnd (decide ((s6.1.len : Int) > (0 : Int))) (
  loopM (fun (s7 : (Int × Int)) =>
  cnd (decide (s7.2 ≥ (0 : Int))) (
  bnd (ix 1 s6.1 s7.2) fun (p8 : Addr) =>
  bnd (ld (.int .u8) p8) fun (v9 : Int) =>
  bnd (nz x1) fun _ =>
  bnd (ix 1 s6.1 s7.2) fun (p10 : Addr) =>
  bnd (wrs p10 0 [.int .u8 (IntKind.wrap .u8 (IntKind.wrap .i64 (Int.tdiv (IntKind.wrap .i64 ((IntKind.wrap .i64 (s7.1 * (256 : Int))) + (IntKind.wrap .i64 v9))) x1)))]) fun _ =>
  bnd (nz x1) fun _ =>
  ret (Sum.inl ((Int.tmod (IntKind.wrap .i64 ((IntKind.wrap .i64 (s7.1 * (256 : Int))) + (IntKind.wrap .i64 v9))) x1), (IntKind.wrap .i64 (s7.2 - (1 : Int)))))) (
  bnd (
  bnd (ixS (ByteArray.mk #[48, 49, 50, 51, 52, 53, 54, 55, 56, 57, 65, 66, 67, 68, 69, 70, 71, 72, 73, 74, 75, 76, 77, 78, 79, 80, 81, 82, 83, 84, 85, 86, 87, 88, 89, 90]) s7.1) fun (v11 : Int) =>
  bnd (runV Try.prog .sl (Instr.buildSlice 61 1 #[(0, .int .u8 v11)])) fun (v12 : Sl) =>
  bnd (runV Try.prog .sl (Builtin.append_ #[61, 61] 61 #[.slice s6.2.a s6.2.len s6.2.cap, .slice v12.a v12.len v12.cap])) fun (v13 : Sl) =>
  bnd (f64_palaverref09_trim s6.1) fun (r14 : Sl) =>
  ret (Sum.inl (r14, v13))) fun r15 =>
  ret (Sum.inr r15))) ((0 : Int), (IntKind.wrap .i64 ((s6.1.len : Int) - (1 : Int))))) (
  bnd (
  cnd ((s6.2.len : Int) == (0 : Int)) (
  ret ((ByteArray.mk #[48]), (0 : Int))) (
  bnd (ld .bool (Addr.add p1 0)) fun (v16 : Bool) =>
  bnd (
  cnd v16 (
  bnd (runV Try.prog .sl (Instr.buildSlice 61 1 #[(0, .int .u8 (45 : Int))])) fun (v18 : Sl) =>
  bnd (runV Try.prog .sl (Builtin.append_ #[61, 61] 61 #[.slice s6.2.a s6.2.len s6.2.cap, .slice v18.a v18.len v18.cap])) fun (v19 : Sl) =>
  ret v19) (
  ret s6.2)) fun (s17 : Sl) =>
  loopM (fun (s20 : Int) =>
  cnd (decide (s20 < (IntKind.wrap .i64 (Int.tdiv (s17.len : Int) (2 : Int))))) (
  bnd (ix 1 s17 s20) fun (p21 : Addr) =>
  bnd (ld (.int .u8) p21) fun (v22 : Int) =>
  bnd (ix 1 s17 (IntKind.wrap .i64 ((IntKind.wrap .i64 ((s17.len : Int) - (1 : Int))) - s20))) fun (p23 : Addr) =>
  bnd (ld (.int .u8) p23) fun (v24 : Int) =>
  bnd (ix 1 s17 s20) fun (p25 : Addr) =>
  bnd (wrs p25 0 [.int .u8 v24]) fun _ =>
  bnd (ix 1 s17 (IntKind.wrap .i64 ((IntKind.wrap .i64 ((s17.len : Int) - (1 : Int))) - s20))) fun (p26 : Addr) =>
  bnd (wrs p26 0 [.int .u8 v22]) fun _ =>
  ret (Sum.inl (IntKind.wrap .i64 (s20 + (1 : Int))))) (
  bnd (
  bnd (runV Try.prog .str (convert 61 9 (.slice s17.a s17.len s17.cap))) fun (v27 : ByteArray) =>
  ret (v27, (0 : Int))) fun r28 =>
  ret (Sum.inr r28))) (0 : Int))) fun r29 =>
  ret (Sum.inr r29))) (v5, (Sl.mk none 0 0))))
noncomputable def Af23_palaverref09_Text : Ann := (.two .nil (.two .nil (.two (.two .nil (.two (.two .nil .nil) .nil)) (.two (.two .nil (.two (.two .nil .nil) .nil)) (.two .nil (.two .nil (.two (.one (.loop [(7, .sl), (8, .sl)] [9, 10, 11, 29, 30, 31, 32, 33, 34, 35, 36, 37, 38, 39, 40, 41, 42, 43, 44, 45, 46, 47, 48, 49, 50, 51, 52, 53, 54, 55, 56, 57, 58, 59, 60, 61, 62, 63] (.two (.two .nil (.two .nil .nil)) (.one (.two .nil (.two (.two .nil (.one (.loop [(9, (.int .i64)), (10, (.int .i64))] [11, 35, 36, 37, 38, 39, 40, 41, 42, 43, 44, 45, 46, 47, 48, 49, 50, 51, 52, 53, 54, 55, 56] (.two (.two .nil (.two .nil .nil)) (.two (.one (.two .nil (.two .nil .nil))) .nil))))) (.two .nil .nil))))))) (.two (.two .nil (.two (.two .nil .nil) .nil)) (.two (.two .nil (.join [(8, .sl)] [69, 70, 71] false (.two .nil .nil))) (.two (.two .nil (.one (.loop [(12, (.int .i64))] [13, 14, 72, 73, 74, 75, 76, 77, 78, 79, 80, 81, 82, 83, 84, 85, 86, 87, 88, 89, 90, 91, 92, 93, 94, 95, 96, 97, 98] (.two (.two .nil (.two .nil .nil)) (.two (.one (.two .nil (.two .nil (.two .nil .nil)))) .nil))))) (.two .nil .nil)))))))))))
theorem Cf23_palaverref09_Text_ok : Cf23_palaverref09_Text.Ok := mkC_ok mixed tysOk zerosOk eqsOk ⟨Sf43_palaverref09_Check, Sf64_palaverref09_trim, trivial⟩ trivial
theorem Ef23_palaverref09_Text (x : ((Bool × ByteArray) × Int)) : evF Cf23_palaverref09_Text Try.f23 101 (.pair (.agg (.pair .bool .str)) (.int .i64)) (.tup (.pair .str (.int .i64))) Af23_palaverref09_Text x = f23_palaverref09_Text x.1 x.2 := by kernel_rfl
theorem Sf23_palaverref09_Text : SoundF Try.prog 23 ⟨(.pair (.agg (.pair .bool .str)) (.int .i64)), (.tup (.pair .str (.int .i64))), fun x => f23_palaverref09_Text x.1 x.2⟩ :=
  soundF_of Cf23_palaverref09_Text_ok Try.func23 (by kernel_rfl) (by kernel_rfl) Ef23_palaverref09_Text
noncomputable def Cf4_palaverlaw09_LargeTexts : Ctx := mkC Try.prog tys zeros eqs [(12, ⟨.unit, .bool, fun _ => f12_palaverlaw09_works⟩), (13, ⟨(.pair (.agg (.pair .bool .str)) (.agg (.pair .bool .str))), .bool, fun x => f13_palaverlaw09_far x.1 x.2⟩), (20, ⟨(.pair .str (.int .i64)), (.tup (.pair (.agg (.pair .bool .str)) (.int .i64))), fun x => f20_largeint_Parse x.1 x.2⟩), (21, ⟨(.pair .str (.int .i64)), (.tup (.pair (.agg (.pair .bool .str)) (.int .i64))), fun x => f21_palaverref09_Parse x.1 x.2⟩), (22, ⟨(.pair (.agg (.pair .bool .str)) (.int .i64)), (.tup (.pair .str (.int .i64))), fun x => f22_largeint_Text x.1 x.2⟩), (23, ⟨(.pair (.agg (.pair .bool .str)) (.int .i64)), (.tup (.pair .str (.int .i64))), fun x => f23_palaverref09_Text x.1 x.2⟩)] []
/-- palaverpalaverlaw09.LargeTexts -/
noncomputable def f4_palaverlaw09_LargeTexts (x0 : ByteArray) (x1 : (Bool × ByteArray)) (x2 : Int) : M Bool :=
  bnd (newC 23 [.bool x1.1, .string x1.2]) fun (p1 : Addr) =>
  bnd f12_palaverlaw09_works fun (r2 : Bool) =>
  bnd (ld (.agg (.pair .bool .str)) p1) fun (v3 : (Bool × ByteArray)) =>
  bnd (ld (.agg (.pair .bool .str)) p1) fun (v4 : (Bool × ByteArray)) =>
  bnd (f13_palaverlaw09_far v3 v4) fun (r5 : Bool) =>
  cnd (cond r5 true (decide ((ByteArray.size x0 : Int) > (1048576 : Int)))) (
  ret r2) (
  bnd (f20_largeint_Parse x0 x2) fun (r6 : ((Bool × ByteArray) × Int)) =>
  bnd (newC 23 [.bool false, .string (ByteArray.mk #[])]) fun (p7 : Addr) =>
  bnd (wrs p7 0 [.bool r6.1.1, .string r6.1.2]) fun _ =>
  bnd (f21_palaverref09_Parse x0 x2) fun (r8 : ((Bool × ByteArray) × Int)) =>
  bnd (newC 23 [.bool false, .string (ByteArray.mk #[])]) fun (p9 : Addr) =>
  bnd (wrs p9 0 [.bool r8.1.1, .string r8.1.2]) fun _ =>
  bnd (ld (.agg (.pair .bool .str)) p1) fun (v10 : (Bool × ByteArray)) =>
  bnd (f22_largeint_Text v10 x2) fun (r11 : (ByteArray × Int)) =>
  bnd (ld (.agg (.pair .bool .str)) p1) fun (v12 : (Bool × ByteArray)) =>
  bnd (f23_palaverref09_Text v12 x2) fun (r13 : (ByteArray × Int)) =>
  bnd (
  cnd r2 (
  bnd (ld (.agg (.pair .bool .str)) p7) fun (v14 : (Bool × ByteArray)) =>
  bnd (ld (.agg (.pair .bool .str)) p9) fun (v15 : (Bool × ByteArray)) =>
  ret ((v14.1 == v15.1) && (strEq v14.2 v15.2))) (
  ret false)) fun (b16 : Bool) =>
  ret (cond (cond (cond b16 (r6.2 == r8.2) false) (strEq r11.1 r13.1) false) (r11.2 == r13.2) false))
noncomputable def Af4_palaverlaw09_LargeTexts : Ann := (.two .nil (.two .nil (.two .nil (.two (.two .nil (.two (.two .nil .nil) .nil)) (.two .nil (.two .nil (.two .nil (.two .nil (.two .nil .nil)))))))))
theorem Cf4_palaverlaw09_LargeTexts_ok : Cf4_palaverlaw09_LargeTexts.Ok := mkC_ok mixed tysOk zerosOk eqsOk ⟨Sf12_palaverlaw09_works, Sf13_palaverlaw09_far, Sf20_largeint_Parse, Sf21_palaverref09_Parse, Sf22_largeint_Text, Sf23_palaverref09_Text, trivial⟩ trivial
theorem Ef4_palaverlaw09_LargeTexts (x : (ByteArray × ((Bool × ByteArray) × Int))) : evF Cf4_palaverlaw09_LargeTexts Try.f4 73 (.pair .str (.pair (.agg (.pair .bool .str)) (.int .i64))) .bool Af4_palaverlaw09_LargeTexts x = f4_palaverlaw09_LargeTexts x.1 x.2.1 x.2.2 := by kernel_rfl
theorem Sf4_palaverlaw09_LargeTexts : SoundF Try.prog 4 ⟨(.pair .str (.pair (.agg (.pair .bool .str)) (.int .i64))), .bool, fun x => f4_palaverlaw09_LargeTexts x.1 x.2.1 x.2.2⟩ :=
  soundF_of Cf4_palaverlaw09_LargeTexts_ok Try.func4 (by kernel_rfl) (by kernel_rfl) Ef4_palaverlaw09_LargeTexts
noncomputable def Cf5_palaverlaw09_LargeRead : Ctx := mkC Try.prog tys zeros eqs [(12, ⟨.unit, .bool, fun _ => f12_palaverlaw09_works⟩), (20, ⟨(.pair .str (.int .i64)), (.tup (.pair (.agg (.pair .bool .str)) (.int .i64))), fun x => f20_largeint_Parse x.1 x.2⟩), (22, ⟨(.pair (.agg (.pair .bool .str)) (.int .i64)), (.tup (.pair .str (.int .i64))), fun x => f22_largeint_Text x.1 x.2⟩)] []
/-- palaverpalaverlaw09.LargeRead -/
noncomputable def f5_palaverlaw09_LargeRead (x0 : (Bool × ByteArray)) (x1 : ByteArray) (x2 : Int) : M Bool :=
  bnd (newC 23 [.bool x0.1, .string x0.2]) fun (p1 : Addr) =>
  bnd f12_palaverlaw09_works fun (r2 : Bool) =>
  cnd (decide ((ByteArray.size x1 : Int) > (100000 : Int))) (
  ret r2) (
  bnd (ld (.agg (.pair .bool .str)) p1) fun (v3 : (Bool × ByteArray)) =>
  bnd (f22_largeint_Text v3 x2) fun (r4 : (ByteArray × Int)) =>
  bnd (
  cnd (r4.2 == (0 : Int)) (
  bnd (f20_largeint_Parse r4.1 x2) fun (r6 : ((Bool × ByteArray) × Int)) =>
  bnd (newC 23 [.bool false, .string (ByteArray.mk #[])]) fun (p7 : Addr) =>
  bnd (wrs p7 0 [.bool r6.1.1, .string r6.1.2]) fun _ =>
  bnd (
  cnd (r6.2 != (0 : Int)) (
  ret true) (
  bnd (ld (.agg (.pair .bool .str)) p7) fun (v8 : (Bool × ByteArray)) =>
  bnd (ld (.agg (.pair .bool .str)) p1) fun (v9 : (Bool × ByteArray)) =>
  ret (!((v8.1 == v9.1) && (strEq v8.2 v9.2))))) fun (b10 : Bool) =>
  cnd b10 (
  ret (Sum.inr false)) (
  ret (Sum.inl ()))) (
  ret (Sum.inl ()))) (fun
  | .inl (s5 : Unit) =>
  bnd (f20_largeint_Parse x1 x2) fun (r13 : ((Bool × ByteArray) × Int)) =>
  bnd (newC 23 [.bool false, .string (ByteArray.mk #[])]) fun (p14 : Addr) =>
  bnd (wrs p14 0 [.bool r13.1.1, .string r13.1.2]) fun _ =>
  cnd (r13.2 == (0 : Int)) (
  bnd (ld (.agg (.pair .bool .str)) p14) fun (v15 : (Bool × ByteArray)) =>
  bnd (f22_largeint_Text v15 x2) fun (r16 : (ByteArray × Int)) =>
  ret (cond (cond r2 (r16.2 == (0 : Int)) false) (strEq r16.1 x1) false)) (
  bnd (
  cnd r2 (
  bnd (ld (.agg (.pair .bool .str)) p14) fun (v17 : (Bool × ByteArray)) =>
  ret ((v17.1 == false) && (strEq v17.2 (ByteArray.mk #[])))) (
  ret false)) fun (b18 : Bool) =>
  ret b18)
  | .inr r19 => ret r19))
noncomputable def Af5_palaverlaw09_LargeRead : Ann := (.two .nil (.two .nil (.two (.two .nil (.two (.two .nil .nil) .nil)) (.two .nil (.two (.two .nil (.join [] [6, 10, 11, 29, 30, 31, 32, 33, 34, 35, 36, 37, 38, 39, 40, 41] true (.two (.two .nil (.two .nil (.two (.two .nil .nil) .nil))) .nil))) (.two .nil (.two (.two .nil (.two (.two .nil (.two .nil .nil)) .nil)) (.two .nil .nil))))))))
theorem Cf5_palaverlaw09_LargeRead_ok : Cf5_palaverlaw09_LargeRead.Ok := mkC_ok mixed tysOk zerosOk eqsOk ⟨Sf12_palaverlaw09_works, Sf20_largeint_Parse, Sf22_largeint_Text, trivial⟩ trivial
theorem Ef5_palaverlaw09_LargeRead (x : ((Bool × ByteArray) × (ByteArray × Int))) : evF Cf5_palaverlaw09_LargeRead Try.f5 72 (.pair (.agg (.pair .bool .str)) (.pair .str (.int .i64))) .bool Af5_palaverlaw09_LargeRead x = f5_palaverlaw09_LargeRead x.1 x.2.1 x.2.2 := by kernel_rfl
theorem Sf5_palaverlaw09_LargeRead : SoundF Try.prog 5 ⟨(.pair (.agg (.pair .bool .str)) (.pair .str (.int .i64))), .bool, fun x => f5_palaverlaw09_LargeRead x.1 x.2.1 x.2.2⟩ :=
  soundF_of Cf5_palaverlaw09_LargeRead_ok Try.func5 (by kernel_rfl) (by kernel_rfl) Ef5_palaverlaw09_LargeRead
noncomputable def Cf90_palaverref09_ones : Ctx := mkC Try.prog tys zeros eqs [(83, ⟨(.pair .sl .sl), .sl, fun x => f83_palaverref09_minus x.1 x.2⟩), (92, ⟨(.pair .sl (.int .i64)), (.int .i64), fun x => f92_palaverref09_digit x.1 x.2⟩)] []
/-- palaverpalaverref09.ones -/
noncomputable def f90_palaverref09_ones (x0 : (Bool × ByteArray)) (x1 : Int) : M Sl :=
  bnd (newC 23 [.bool x0.1, .string x0.2]) fun (p1 : Addr) =>
  bnd (ld .str (Addr.add p1 1)) fun (v2 : ByteArray) =>
  bnd (runV Try.prog .sl (convert 9 61 (.string v2))) fun (v3 : Sl) =>
  bnd (ld .bool (Addr.add p1 0)) fun (v4 : Bool) =>
  bnd (
  cnd v4 (
  bnd (runV Try.prog .sl (Instr.buildSlice 61 1 #[(0, .int .u8 (1 : Int))])) fun (v6 : Sl) =>
  bnd (f83_palaverref09_minus v3 v6) fun (r7 : Sl) =>
  ret r7) (
  ret v3)) fun (s5 : Sl) =>
  bnd (runV Try.prog .sl (Instr.makeSlice 61 (.int .i64 x1) (.int .i64 x1))) fun (v8 : Sl) =>
  loopM (fun (s9 : Int) =>
  cnd (decide (s9 < x1)) (
  bnd (f92_palaverref09_digit s5 s9) fun (r10 : Int) =>
  bnd (ld .bool (Addr.add p1 0)) fun (v11 : Bool) =>
  bnd (
  cnd v11 (
  ret (IntKind.wrap .i64 ((255 : Int) - r10))) (
  ret r10)) fun (s12 : Int) =>
  bnd (ix 1 v8 s9) fun (p13 : Addr) =>
  bnd (wrs p13 0 [.int .u8 (IntKind.wrap .u8 s12)]) fun _ =>
  ret (Sum.inl (IntKind.wrap .i64 (s9 + (1 : Int))))) (
  ret (Sum.inr v8))) (0 : Int)
noncomputable def Af90_palaverref09_ones : Ann := (.two .nil (.two .nil (.two (.two .nil (.join [(5, .sl)] [14, 15, 16] false (.two .nil .nil))) (.two .nil (.two (.two .nil (.one (.loop [(7, (.int .i64))] [8, 19, 20, 21, 22, 23, 24, 25, 26, 27, 28, 29, 30, 31, 32, 33, 34, 35] (.two (.two .nil (.two .nil .nil)) (.two (.one (.two .nil (.two (.two .nil (.join [(8, (.int .i64))] [29, 30] false (.two .nil .nil))) .nil))) .nil))))) (.two .nil .nil))))))
theorem Cf90_palaverref09_ones_ok : Cf90_palaverref09_ones.Ok := mkC_ok mixed tysOk zerosOk eqsOk ⟨Sf83_palaverref09_minus, Sf92_palaverref09_digit, trivial⟩ trivial
theorem Ef90_palaverref09_ones (x : ((Bool × ByteArray) × Int)) : evF Cf90_palaverref09_ones Try.f90 37 (.pair (.agg (.pair .bool .str)) (.int .i64)) .sl Af90_palaverref09_ones x = f90_palaverref09_ones x.1 x.2 := by kernel_rfl
theorem Sf90_palaverref09_ones : SoundF Try.prog 90 ⟨(.pair (.agg (.pair .bool .str)) (.int .i64)), .sl, fun x => f90_palaverref09_ones x.1 x.2⟩ :=
  soundF_of Cf90_palaverref09_ones_ok Try.func90 (by kernel_rfl) (by kernel_rfl) Ef90_palaverref09_ones
end Go.Proofs.Ytoekfjgikicclaa
