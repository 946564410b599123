/-
  Part of the proof: B01a
-/
import Derived.Test.YtpgalllceejpnaaProg
import Derived.Test.YtpgalllceejpnaaShI
import Derived.KernelRfl
set_option linter.unusedSimpArgs false
set_option linter.unusedVariables false
namespace Go.Proofs.Ytpgalllceejpnaa
set_option linter.unusedVariables false
open Go.Sh
set_option maxRecDepth 100000
noncomputable def tys : List (Nat × Ty) := [(3, (.int .i64)),
  (4, .bool),
  (9, .str),
  (22, .sl),
  (24, (.agg (.pair (.int .i64) (.pair (.int .i64) (.pair (.int .i64) .sl))))),
  (25, (.int .u32)),
  (28, (.int .i64)),
  (38, .ptr),
  (39, .sl),
  (40, .sl),
  (41, .sl),
  (42, .sl),
  (43, .sl),
  (44, .sl),
  (45, .sl),
  (46, .sl),
  (48, (.agg (.pair .sl (.pair .sl (.pair .sl (.pair .sl (.pair .sl (.pair .sl (.pair .sl .sl))))))))),
  (52, (.agg (.pair (.int .i64) (.pair (.int .i64) (.pair (.int .i64) (.pair (.int .i64) (.pair (.int .i64) (.pair (.int .i64) (.pair (.int .i64) (.pair (.int .i64) (.pair (.int .i64) (.pair (.int .i64) (.pair (.int .i64) .sl))))))))))))),
  (58, (.int .u64)),
  (69, .val),
  (88, (.int .u64)),
  (89, (.agg (.pair .val (.pair .val (.pair .val (.pair .val (.pair .val (.pair .val (.pair .val (.pair .val (.pair .val (.pair .val (.pair .val (.pair .val (.pair .val (.pair .val (.pair .val .val))))))))))))))))),
  (90, .sl),
  (91, .sl),
  (92, .sl),
  (93, (.int .u64)),
  (94, .sl),
  (97, (.agg (.pair (.int .u8) (.pair (.int .i64) (.pair .str (.pair .str (.pair (.int .i64) (.int .i64)))))))),
  (98, .sl),
  (101, (.agg (.pair .str .str))),
  (102, .sl),
  (105, (.agg (.pair (.int .u8) (.pair (.int .i64) .str)))),
  (106, .sl),
  (107, (.agg (.pair (.int .i64) (.pair (.int .i64) (.pair (.int .i64) (.pair (.int .i64) (.pair (.int .i64) (.pair (.int .i64) (.pair (.int .i64) (.pair (.int .i64) (.pair (.int .i64) (.int .i64))))))))))))]
theorem tysOk : AllN (fun T t => tyFitsB Try.prog T t = true) tys :=
  ⟨(by kernel_rfl : tyFitsB Try.prog 3 (.int .i64) = true),
   (by kernel_rfl : tyFitsB Try.prog 4 .bool = true),
   (by kernel_rfl : tyFitsB Try.prog 9 .str = true),
   (by kernel_rfl : tyFitsB Try.prog 22 .sl = true),
   (by kernel_rfl : tyFitsB Try.prog 24 (.agg (.pair (.int .i64) (.pair (.int .i64) (.pair (.int .i64) .sl)))) = true),
   (by kernel_rfl : tyFitsB Try.prog 25 (.int .u32) = true),
   (by kernel_rfl : tyFitsB Try.prog 28 (.int .i64) = true),
   (by kernel_rfl : tyFitsB Try.prog 38 .ptr = true),
   (by kernel_rfl : tyFitsB Try.prog 39 .sl = true),
   (by kernel_rfl : tyFitsB Try.prog 40 .sl = true),
   (by kernel_rfl : tyFitsB Try.prog 41 .sl = true),
   (by kernel_rfl : tyFitsB Try.prog 42 .sl = true),
   (by kernel_rfl : tyFitsB Try.prog 43 .sl = true),
   (by kernel_rfl : tyFitsB Try.prog 44 .sl = true),
   (by kernel_rfl : tyFitsB Try.prog 45 .sl = true),
   (by kernel_rfl : tyFitsB Try.prog 46 .sl = true),
   (by kernel_rfl : tyFitsB Try.prog 48 (.agg (.pair .sl (.pair .sl (.pair .sl (.pair .sl (.pair .sl (.pair .sl (.pair .sl .sl)))))))) = true),
   (by kernel_rfl : tyFitsB Try.prog 52 (.agg (.pair (.int .i64) (.pair (.int .i64) (.pair (.int .i64) (.pair (.int .i64) (.pair (.int .i64) (.pair (.int .i64) (.pair (.int .i64) (.pair (.int .i64) (.pair (.int .i64) (.pair (.int .i64) (.pair (.int .i64) .sl)))))))))))) = true),
   (by kernel_rfl : tyFitsB Try.prog 58 (.int .u64) = true),
   (by kernel_rfl : tyFitsB Try.prog 69 .val = true),
   (by kernel_rfl : tyFitsB Try.prog 88 (.int .u64) = true),
   (by kernel_rfl : tyFitsB Try.prog 89 (.agg (.pair .val (.pair .val (.pair .val (.pair .val (.pair .val (.pair .val (.pair .val (.pair .val (.pair .val (.pair .val (.pair .val (.pair .val (.pair .val (.pair .val (.pair .val .val)))))))))))))))) = true),
   (by kernel_rfl : tyFitsB Try.prog 90 .sl = true),
   (by kernel_rfl : tyFitsB Try.prog 91 .sl = true),
   (by kernel_rfl : tyFitsB Try.prog 92 .sl = true),
   (by kernel_rfl : tyFitsB Try.prog 93 (.int .u64) = true),
   (by kernel_rfl : tyFitsB Try.prog 94 .sl = true),
   (by kernel_rfl : tyFitsB Try.prog 97 (.agg (.pair (.int .u8) (.pair (.int .i64) (.pair .str (.pair .str (.pair (.int .i64) (.int .i64))))))) = true),
   (by kernel_rfl : tyFitsB Try.prog 98 .sl = true),
   (by kernel_rfl : tyFitsB Try.prog 101 (.agg (.pair .str .str)) = true),
   (by kernel_rfl : tyFitsB Try.prog 102 .sl = true),
   (by kernel_rfl : tyFitsB Try.prog 105 (.agg (.pair (.int .u8) (.pair (.int .i64) .str))) = true),
   (by kernel_rfl : tyFitsB Try.prog 106 .sl = true),
   (by kernel_rfl : tyFitsB Try.prog 107 (.agg (.pair (.int .i64) (.pair (.int .i64) (.pair (.int .i64) (.pair (.int .i64) (.pair (.int .i64) (.pair (.int .i64) (.pair (.int .i64) (.pair (.int .i64) (.pair (.int .i64) (.int .i64))))))))))) = true), trivial⟩
noncomputable def zeros : List (Nat × TV) := [(24, ⟨(.agg (.pair (.int .i64) (.pair (.int .i64) (.pair (.int .i64) .sl)))), ((0 : Int), (0 : Int), (0 : Int), (Sl.mk none 0 0))⟩),
  (48, ⟨(.agg (.pair .sl (.pair .sl (.pair .sl (.pair .sl (.pair .sl (.pair .sl (.pair .sl .sl)))))))), ((Sl.mk none 0 0), (Sl.mk none 0 0), (Sl.mk none 0 0), (Sl.mk none 0 0), (Sl.mk none 0 0), (Sl.mk none 0 0), (Sl.mk none 0 0), (Sl.mk none 0 0))⟩),
  (52, ⟨(.agg (.pair (.int .i64) (.pair (.int .i64) (.pair (.int .i64) (.pair (.int .i64) (.pair (.int .i64) (.pair (.int .i64) (.pair (.int .i64) (.pair (.int .i64) (.pair (.int .i64) (.pair (.int .i64) (.pair (.int .i64) .sl)))))))))))), ((0 : Int), (0 : Int), (0 : Int), (0 : Int), (0 : Int), (0 : Int), (0 : Int), (0 : Int), (0 : Int), (0 : Int), (0 : Int), (Sl.mk none 0 0))⟩),
  (89, ⟨(.agg (.pair .val (.pair .val (.pair .val (.pair .val (.pair .val (.pair .val (.pair .val (.pair .val (.pair .val (.pair .val (.pair .val (.pair .val (.pair .val (.pair .val (.pair .val .val)))))))))))))))), ((Value.nilFunc), (Value.nilFunc), (Value.nilFunc), (Value.nilFunc), (Value.nilFunc), (Value.nilFunc), (Value.nilFunc), (Value.nilFunc), (Value.nilFunc), (Value.nilFunc), (Value.nilFunc), (Value.nilFunc), (Value.nilFunc), (Value.nilFunc), (Value.nilFunc), (Value.nilFunc))⟩),
  (97, ⟨(.agg (.pair (.int .u8) (.pair (.int .i64) (.pair .str (.pair .str (.pair (.int .i64) (.int .i64))))))), ((0 : Int), (0 : Int), (ByteArray.mk #[]), (ByteArray.mk #[]), (0 : Int), (0 : Int))⟩),
  (101, ⟨(.agg (.pair .str .str)), ((ByteArray.mk #[]), (ByteArray.mk #[]))⟩),
  (105, ⟨(.agg (.pair (.int .u8) (.pair (.int .i64) .str))), ((0 : Int), (0 : Int), (ByteArray.mk #[]))⟩),
  (107, ⟨(.agg (.pair (.int .i64) (.pair (.int .i64) (.pair (.int .i64) (.pair (.int .i64) (.pair (.int .i64) (.pair (.int .i64) (.pair (.int .i64) (.pair (.int .i64) (.pair (.int .i64) (.int .i64))))))))))), ((0 : Int), (0 : Int), (0 : Int), (0 : Int), (0 : Int), (0 : Int), (0 : Int), (0 : Int), (0 : Int), (0 : Int))⟩)]
theorem zerosOk : AllN (fun T (z : TV) => ∃ i, Try.prog.info? T = some i ∧ i.zero = some z.v) zeros :=
  ⟨⟨_, (by kernel_rfl : Try.prog.info? 24 = some Try.t24), rfl⟩,
   ⟨_, (by kernel_rfl : Try.prog.info? 48 = some Try.t48), rfl⟩,
   ⟨_, (by kernel_rfl : Try.prog.info? 52 = some Try.t52), rfl⟩,
   ⟨_, (by kernel_rfl : Try.prog.info? 89 = some Try.t89), rfl⟩,
   ⟨_, (by kernel_rfl : Try.prog.info? 97 = some Try.t97), rfl⟩,
   ⟨_, (by kernel_rfl : Try.prog.info? 101 = some Try.t101), rfl⟩,
   ⟨_, (by kernel_rfl : Try.prog.info? 105 = some Try.t105), rfl⟩,
   ⟨_, (by kernel_rfl : Try.prog.info? 107 = some Try.t107), rfl⟩, trivial⟩
noncomputable def eqs : List (Nat × Ty) := [(97, (.pair (.int .u8) (.pair (.int .i64) (.pair .str (.pair .str (.pair (.int .i64) (.int .i64))))))), (101, (.pair .str .str)), (105, (.pair (.int .u8) (.pair (.int .i64) .str)))]
theorem eqsOk : AllN (EqOk Try.prog) eqs := ⟨eqOk_of (by kernel_rfl), eqOk_of (by kernel_rfl), eqOk_of (by kernel_rfl), trivial⟩
theorem mixed : Try.prog.follows .mixedOrders = true := by kernel_rfl
noncomputable def Cf79_bits_OnesCount32 : Ctx := mkC Try.prog tys zeros eqs [] []
/-- mathbits.OnesCount32 -/
noncomputable def f79_bits_OnesCount32 (x0 : Int) : M Int :=
  bnd drawM fun _ =>
  bnd (ixS (ByteArray.mk #[0, 1, 1, 2, 1, 2, 2, 3, 1, 2, 2, 3, 2, 3, 3, 4, 1, 2, 2, 3, 2, 3, 3, 4, 2, 3, 3, 4, 3, 4, 4, 5, 1, 2, 2, 3, 2, 3, 3, 4, 2, 3, 3, 4, 3, 4, 4, 5, 2, 3, 3, 4, 3, 4, 4, 5, 3, 4, 4, 5, 4, 5, 5, 6, 1, 2, 2, 3, 2, 3, 3, 4, 2, 3, 3, 4, 3, 4, 4, 5, 2, 3, 3, 4, 3, 4, 4, 5, 3, 4, 4, 5, 4, 5, 5, 6, 2, 3, 3, 4, 3, 4, 4, 5, 3, 4, 4, 5, 4, 5, 5, 6, 3, 4, 4, 5, 4, 5, 5, 6, 4, 5, 5, 6, 5, 6, 6, 7, 1, 2, 2, 3, 2, 3, 3, 4, 2, 3, 3, 4, 3, 4, 4, 5, 2, 3, 3, 4, 3, 4, 4, 5, 3, 4, 4, 5, 4, 5, 5, 6, 2, 3, 3, 4, 3, 4, 4, 5, 3, 4, 4, 5, 4, 5, 5, 6, 3, 4, 4, 5, 4, 5, 5, 6, 4, 5, 5, 6, 5, 6, 6, 7, 2, 3, 3, 4, 3, 4, 4, 5, 3, 4, 4, 5, 4, 5, 5, 6, 3, 4, 4, 5, 4, 5, 5, 6, 4, 5, 5, 6, 5, 6, 6, 7, 3, 4, 4, 5, 4, 5, 5, 6, 4, 5, 5, 6, 5, 6, 6, 7, 4, 5, 5, 6, 5, 6, 6, 7, 5, 6, 6, 7, 6, 7, 7, 8]) (shrI .u32 x0 24)) fun (v1 : Int) =>
  bnd (ixS (ByteArray.mk #[0, 1, 1, 2, 1, 2, 2, 3, 1, 2, 2, 3, 2, 3, 3, 4, 1, 2, 2, 3, 2, 3, 3, 4, 2, 3, 3, 4, 3, 4, 4, 5, 1, 2, 2, 3, 2, 3, 3, 4, 2, 3, 3, 4, 3, 4, 4, 5, 2, 3, 3, 4, 3, 4, 4, 5, 3, 4, 4, 5, 4, 5, 5, 6, 1, 2, 2, 3, 2, 3, 3, 4, 2, 3, 3, 4, 3, 4, 4, 5, 2, 3, 3, 4, 3, 4, 4, 5, 3, 4, 4, 5, 4, 5, 5, 6, 2, 3, 3, 4, 3, 4, 4, 5, 3, 4, 4, 5, 4, 5, 5, 6, 3, 4, 4, 5, 4, 5, 5, 6, 4, 5, 5, 6, 5, 6, 6, 7, 1, 2, 2, 3, 2, 3, 3, 4, 2, 3, 3, 4, 3, 4, 4, 5, 2, 3, 3, 4, 3, 4, 4, 5, 3, 4, 4, 5, 4, 5, 5, 6, 2, 3, 3, 4, 3, 4, 4, 5, 3, 4, 4, 5, 4, 5, 5, 6, 3, 4, 4, 5, 4, 5, 5, 6, 4, 5, 5, 6, 5, 6, 6, 7, 2, 3, 3, 4, 3, 4, 4, 5, 3, 4, 4, 5, 4, 5, 5, 6, 3, 4, 4, 5, 4, 5, 5, 6, 4, 5, 5, 6, 5, 6, 6, 7, 3, 4, 4, 5, 4, 5, 5, 6, 4, 5, 5, 6, 5, 6, 6, 7, 4, 5, 5, 6, 5, 6, 6, 7, 5, 6, 6, 7, 6, 7, 7, 8]) (bAnd .u32 (shrI .u32 x0 16) (255 : Int))) fun (v2 : Int) =>
  bnd (ixS (ByteArray.mk #[0, 1, 1, 2, 1, 2, 2, 3, 1, 2, 2, 3, 2, 3, 3, 4, 1, 2, 2, 3, 2, 3, 3, 4, 2, 3, 3, 4, 3, 4, 4, 5, 1, 2, 2, 3, 2, 3, 3, 4, 2, 3, 3, 4, 3, 4, 4, 5, 2, 3, 3, 4, 3, 4, 4, 5, 3, 4, 4, 5, 4, 5, 5, 6, 1, 2, 2, 3, 2, 3, 3, 4, 2, 3, 3, 4, 3, 4, 4, 5, 2, 3, 3, 4, 3, 4, 4, 5, 3, 4, 4, 5, 4, 5, 5, 6, 2, 3, 3, 4, 3, 4, 4, 5, 3, 4, 4, 5, 4, 5, 5, 6, 3, 4, 4, 5, 4, 5, 5, 6, 4, 5, 5, 6, 5, 6, 6, 7, 1, 2, 2, 3, 2, 3, 3, 4, 2, 3, 3, 4, 3, 4, 4, 5, 2, 3, 3, 4, 3, 4, 4, 5, 3, 4, 4, 5, 4, 5, 5, 6, 2, 3, 3, 4, 3, 4, 4, 5, 3, 4, 4, 5, 4, 5, 5, 6, 3, 4, 4, 5, 4, 5, 5, 6, 4, 5, 5, 6, 5, 6, 6, 7, 2, 3, 3, 4, 3, 4, 4, 5, 3, 4, 4, 5, 4, 5, 5, 6, 3, 4, 4, 5, 4, 5, 5, 6, 4, 5, 5, 6, 5, 6, 6, 7, 3, 4, 4, 5, 4, 5, 5, 6, 4, 5, 5, 6, 5, 6, 6, 7, 4, 5, 5, 6, 5, 6, 6, 7, 5, 6, 6, 7, 6, 7, 7, 8]) (bAnd .u32 (shrI .u32 x0 8) (255 : Int))) fun (v3 : Int) =>
  bnd (ixS (ByteArray.mk #[0, 1, 1, 2, 1, 2, 2, 3, 1, 2, 2, 3, 2, 3, 3, 4, 1, 2, 2, 3, 2, 3, 3, 4, 2, 3, 3, 4, 3, 4, 4, 5, 1, 2, 2, 3, 2, 3, 3, 4, 2, 3, 3, 4, 3, 4, 4, 5, 2, 3, 3, 4, 3, 4, 4, 5, 3, 4, 4, 5, 4, 5, 5, 6, 1, 2, 2, 3, 2, 3, 3, 4, 2, 3, 3, 4, 3, 4, 4, 5, 2, 3, 3, 4, 3, 4, 4, 5, 3, 4, 4, 5, 4, 5, 5, 6, 2, 3, 3, 4, 3, 4, 4, 5, 3, 4, 4, 5, 4, 5, 5, 6, 3, 4, 4, 5, 4, 5, 5, 6, 4, 5, 5, 6, 5, 6, 6, 7, 1, 2, 2, 3, 2, 3, 3, 4, 2, 3, 3, 4, 3, 4, 4, 5, 2, 3, 3, 4, 3, 4, 4, 5, 3, 4, 4, 5, 4, 5, 5, 6, 2, 3, 3, 4, 3, 4, 4, 5, 3, 4, 4, 5, 4, 5, 5, 6, 3, 4, 4, 5, 4, 5, 5, 6, 4, 5, 5, 6, 5, 6, 6, 7, 2, 3, 3, 4, 3, 4, 4, 5, 3, 4, 4, 5, 4, 5, 5, 6, 3, 4, 4, 5, 4, 5, 5, 6, 4, 5, 5, 6, 5, 6, 6, 7, 3, 4, 4, 5, 4, 5, 5, 6, 4, 5, 5, 6, 5, 6, 6, 7, 4, 5, 5, 6, 5, 6, 6, 7, 5, 6, 6, 7, 6, 7, 7, 8]) (bAnd .u32 x0 (255 : Int))) fun (v4 : Int) =>
  ret (IntKind.wrap .i64 (IntKind.wrap .u8 ((IntKind.wrap .u8 ((IntKind.wrap .u8 (v1 + v2)) + v3)) + v4)))
noncomputable def Af79_bits_OnesCount32 : Ann := (.two .nil (.two .nil .nil))
theorem Cf79_bits_OnesCount32_ok : Cf79_bits_OnesCount32.Ok := mkC_ok mixed tysOk zerosOk eqsOk trivial trivial
theorem Ef79_bits_OnesCount32 (x : Int) : evF Cf79_bits_OnesCount32 Try.f79 21 (.int .u32) (.int .i64) Af79_bits_OnesCount32 x = f79_bits_OnesCount32 x := by kernel_rfl
theorem Sf79_bits_OnesCount32 : SoundF Try.prog 79 ⟨(.int .u32), (.int .i64), fun x => f79_bits_OnesCount32 x⟩ :=
  soundF_of Cf79_bits_OnesCount32_ok Try.func79 (by kernel_rfl) (by kernel_rfl) Ef79_bits_OnesCount32
noncomputable def Gf80_bits_OnesCount64 (x0 : Int) : Int :=
  (bAnd .i64 (IntKind.wrap .i64 (IntKind.wrap .u64 ((IntKind.wrap .u64 ((IntKind.wrap .u64 ((bAnd .u64 (IntKind.wrap .u64 ((shrI .u64 (IntKind.wrap .u64 ((bAnd .u64 (shrI .u64 (IntKind.wrap .u64 ((bAnd .u64 (shrI .u64 x0 1) (6148914691236517205 : Int)) + (bAnd .u64 x0 (6148914691236517205 : Int)))) 2) (3689348814741910323 : Int)) + (bAnd .u64 (IntKind.wrap .u64 ((bAnd .u64 (shrI .u64 x0 1) (6148914691236517205 : Int)) + (bAnd .u64 x0 (6148914691236517205 : Int)))) (3689348814741910323 : Int)))) 4) + (IntKind.wrap .u64 ((bAnd .u64 (shrI .u64 (IntKind.wrap .u64 ((bAnd .u64 (shrI .u64 x0 1) (6148914691236517205 : Int)) + (bAnd .u64 x0 (6148914691236517205 : Int)))) 2) (3689348814741910323 : Int)) + (bAnd .u64 (IntKind.wrap .u64 ((bAnd .u64 (shrI .u64 x0 1) (6148914691236517205 : Int)) + (bAnd .u64 x0 (6148914691236517205 : Int)))) (3689348814741910323 : Int)))))) (1085102592571150095 : Int)) + (shrI .u64 (bAnd .u64 (IntKind.wrap .u64 ((shrI .u64 (IntKind.wrap .u64 ((bAnd .u64 (shrI .u64 (IntKind.wrap .u64 ((bAnd .u64 (shrI .u64 x0 1) (6148914691236517205 : Int)) + (bAnd .u64 x0 (6148914691236517205 : Int)))) 2) (3689348814741910323 : Int)) + (bAnd .u64 (IntKind.wrap .u64 ((bAnd .u64 (shrI .u64 x0 1) (6148914691236517205 : Int)) + (bAnd .u64 x0 (6148914691236517205 : Int)))) (3689348814741910323 : Int)))) 4) + (IntKind.wrap .u64 ((bAnd .u64 (shrI .u64 (IntKind.wrap .u64 ((bAnd .u64 (shrI .u64 x0 1) (6148914691236517205 : Int)) + (bAnd .u64 x0 (6148914691236517205 : Int)))) 2) (3689348814741910323 : Int)) + (bAnd .u64 (IntKind.wrap .u64 ((bAnd .u64 (shrI .u64 x0 1) (6148914691236517205 : Int)) + (bAnd .u64 x0 (6148914691236517205 : Int)))) (3689348814741910323 : Int)))))) (1085102592571150095 : Int)) 8))) + (shrI .u64 (IntKind.wrap .u64 ((bAnd .u64 (IntKind.wrap .u64 ((shrI .u64 (IntKind.wrap .u64 ((bAnd .u64 (shrI .u64 (IntKind.wrap .u64 ((bAnd .u64 (shrI .u64 x0 1) (6148914691236517205 : Int)) + (bAnd .u64 x0 (6148914691236517205 : Int)))) 2) (3689348814741910323 : Int)) + (bAnd .u64 (IntKind.wrap .u64 ((bAnd .u64 (shrI .u64 x0 1) (6148914691236517205 : Int)) + (bAnd .u64 x0 (6148914691236517205 : Int)))) (3689348814741910323 : Int)))) 4) + (IntKind.wrap .u64 ((bAnd .u64 (shrI .u64 (IntKind.wrap .u64 ((bAnd .u64 (shrI .u64 x0 1) (6148914691236517205 : Int)) + (bAnd .u64 x0 (6148914691236517205 : Int)))) 2) (3689348814741910323 : Int)) + (bAnd .u64 (IntKind.wrap .u64 ((bAnd .u64 (shrI .u64 x0 1) (6148914691236517205 : Int)) + (bAnd .u64 x0 (6148914691236517205 : Int)))) (3689348814741910323 : Int)))))) (1085102592571150095 : Int)) + (shrI .u64 (bAnd .u64 (IntKind.wrap .u64 ((shrI .u64 (IntKind.wrap .u64 ((bAnd .u64 (shrI .u64 (IntKind.wrap .u64 ((bAnd .u64 (shrI .u64 x0 1) (6148914691236517205 : Int)) + (bAnd .u64 x0 (6148914691236517205 : Int)))) 2) (3689348814741910323 : Int)) + (bAnd .u64 (IntKind.wrap .u64 ((bAnd .u64 (shrI .u64 x0 1) (6148914691236517205 : Int)) + (bAnd .u64 x0 (6148914691236517205 : Int)))) (3689348814741910323 : Int)))) 4) + (IntKind.wrap .u64 ((bAnd .u64 (shrI .u64 (IntKind.wrap .u64 ((bAnd .u64 (shrI .u64 x0 1) (6148914691236517205 : Int)) + (bAnd .u64 x0 (6148914691236517205 : Int)))) 2) (3689348814741910323 : Int)) + (bAnd .u64 (IntKind.wrap .u64 ((bAnd .u64 (shrI .u64 x0 1) (6148914691236517205 : Int)) + (bAnd .u64 x0 (6148914691236517205 : Int)))) (3689348814741910323 : Int)))))) (1085102592571150095 : Int)) 8))) 16))) + (shrI .u64 (IntKind.wrap .u64 ((IntKind.wrap .u64 ((bAnd .u64 (IntKind.wrap .u64 ((shrI .u64 (IntKind.wrap .u64 ((bAnd .u64 (shrI .u64 (IntKind.wrap .u64 ((bAnd .u64 (shrI .u64 x0 1) (6148914691236517205 : Int)) + (bAnd .u64 x0 (6148914691236517205 : Int)))) 2) (3689348814741910323 : Int)) + (bAnd .u64 (IntKind.wrap .u64 ((bAnd .u64 (shrI .u64 x0 1) (6148914691236517205 : Int)) + (bAnd .u64 x0 (6148914691236517205 : Int)))) (3689348814741910323 : Int)))) 4) + (IntKind.wrap .u64 ((bAnd .u64 (shrI .u64 (IntKind.wrap .u64 ((bAnd .u64 (shrI .u64 x0 1) (6148914691236517205 : Int)) + (bAnd .u64 x0 (6148914691236517205 : Int)))) 2) (3689348814741910323 : Int)) + (bAnd .u64 (IntKind.wrap .u64 ((bAnd .u64 (shrI .u64 x0 1) (6148914691236517205 : Int)) + (bAnd .u64 x0 (6148914691236517205 : Int)))) (3689348814741910323 : Int)))))) (1085102592571150095 : Int)) + (shrI .u64 (bAnd .u64 (IntKind.wrap .u64 ((shrI .u64 (IntKind.wrap .u64 ((bAnd .u64 (shrI .u64 (IntKind.wrap .u64 ((bAnd .u64 (shrI .u64 x0 1) (6148914691236517205 : Int)) + (bAnd .u64 x0 (6148914691236517205 : Int)))) 2) (3689348814741910323 : Int)) + (bAnd .u64 (IntKind.wrap .u64 ((bAnd .u64 (shrI .u64 x0 1) (6148914691236517205 : Int)) + (bAnd .u64 x0 (6148914691236517205 : Int)))) (3689348814741910323 : Int)))) 4) + (IntKind.wrap .u64 ((bAnd .u64 (shrI .u64 (IntKind.wrap .u64 ((bAnd .u64 (shrI .u64 x0 1) (6148914691236517205 : Int)) + (bAnd .u64 x0 (6148914691236517205 : Int)))) 2) (3689348814741910323 : Int)) + (bAnd .u64 (IntKind.wrap .u64 ((bAnd .u64 (shrI .u64 x0 1) (6148914691236517205 : Int)) + (bAnd .u64 x0 (6148914691236517205 : Int)))) (3689348814741910323 : Int)))))) (1085102592571150095 : Int)) 8))) + (shrI .u64 (IntKind.wrap .u64 ((bAnd .u64 (IntKind.wrap .u64 ((shrI .u64 (IntKind.wrap .u64 ((bAnd .u64 (shrI .u64 (IntKind.wrap .u64 ((bAnd .u64 (shrI .u64 x0 1) (6148914691236517205 : Int)) + (bAnd .u64 x0 (6148914691236517205 : Int)))) 2) (3689348814741910323 : Int)) + (bAnd .u64 (IntKind.wrap .u64 ((bAnd .u64 (shrI .u64 x0 1) (6148914691236517205 : Int)) + (bAnd .u64 x0 (6148914691236517205 : Int)))) (3689348814741910323 : Int)))) 4) + (IntKind.wrap .u64 ((bAnd .u64 (shrI .u64 (IntKind.wrap .u64 ((bAnd .u64 (shrI .u64 x0 1) (6148914691236517205 : Int)) + (bAnd .u64 x0 (6148914691236517205 : Int)))) 2) (3689348814741910323 : Int)) + (bAnd .u64 (IntKind.wrap .u64 ((bAnd .u64 (shrI .u64 x0 1) (6148914691236517205 : Int)) + (bAnd .u64 x0 (6148914691236517205 : Int)))) (3689348814741910323 : Int)))))) (1085102592571150095 : Int)) + (shrI .u64 (bAnd .u64 (IntKind.wrap .u64 ((shrI .u64 (IntKind.wrap .u64 ((bAnd .u64 (shrI .u64 (IntKind.wrap .u64 ((bAnd .u64 (shrI .u64 x0 1) (6148914691236517205 : Int)) + (bAnd .u64 x0 (6148914691236517205 : Int)))) 2) (3689348814741910323 : Int)) + (bAnd .u64 (IntKind.wrap .u64 ((bAnd .u64 (shrI .u64 x0 1) (6148914691236517205 : Int)) + (bAnd .u64 x0 (6148914691236517205 : Int)))) (3689348814741910323 : Int)))) 4) + (IntKind.wrap .u64 ((bAnd .u64 (shrI .u64 (IntKind.wrap .u64 ((bAnd .u64 (shrI .u64 x0 1) (6148914691236517205 : Int)) + (bAnd .u64 x0 (6148914691236517205 : Int)))) 2) (3689348814741910323 : Int)) + (bAnd .u64 (IntKind.wrap .u64 ((bAnd .u64 (shrI .u64 x0 1) (6148914691236517205 : Int)) + (bAnd .u64 x0 (6148914691236517205 : Int)))) (3689348814741910323 : Int)))))) (1085102592571150095 : Int)) 8))) 16))) 32)))) (127 : Int))
noncomputable def Cf80_bits_OnesCount64 : Ctx := mkC Try.prog tys zeros eqs [] []
/-- mathbits.OnesCount64 -/
noncomputable def f80_bits_OnesCount64 (x0 : Int) : M Int :=
  ret (bAnd .i64 (IntKind.wrap .i64 (IntKind.wrap .u64 ((IntKind.wrap .u64 ((IntKind.wrap .u64 ((bAnd .u64 (IntKind.wrap .u64 ((shrI .u64 (IntKind.wrap .u64 ((bAnd .u64 (shrI .u64 (IntKind.wrap .u64 ((bAnd .u64 (shrI .u64 x0 1) (6148914691236517205 : Int)) + (bAnd .u64 x0 (6148914691236517205 : Int)))) 2) (3689348814741910323 : Int)) + (bAnd .u64 (IntKind.wrap .u64 ((bAnd .u64 (shrI .u64 x0 1) (6148914691236517205 : Int)) + (bAnd .u64 x0 (6148914691236517205 : Int)))) (3689348814741910323 : Int)))) 4) + (IntKind.wrap .u64 ((bAnd .u64 (shrI .u64 (IntKind.wrap .u64 ((bAnd .u64 (shrI .u64 x0 1) (6148914691236517205 : Int)) + (bAnd .u64 x0 (6148914691236517205 : Int)))) 2) (3689348814741910323 : Int)) + (bAnd .u64 (IntKind.wrap .u64 ((bAnd .u64 (shrI .u64 x0 1) (6148914691236517205 : Int)) + (bAnd .u64 x0 (6148914691236517205 : Int)))) (3689348814741910323 : Int)))))) (1085102592571150095 : Int)) + (shrI .u64 (bAnd .u64 (IntKind.wrap .u64 ((shrI .u64 (IntKind.wrap .u64 ((bAnd .u64 (shrI .u64 (IntKind.wrap .u64 ((bAnd .u64 (shrI .u64 x0 1) (6148914691236517205 : Int)) + (bAnd .u64 x0 (6148914691236517205 : Int)))) 2) (3689348814741910323 : Int)) + (bAnd .u64 (IntKind.wrap .u64 ((bAnd .u64 (shrI .u64 x0 1) (6148914691236517205 : Int)) + (bAnd .u64 x0 (6148914691236517205 : Int)))) (3689348814741910323 : Int)))) 4) + (IntKind.wrap .u64 ((bAnd .u64 (shrI .u64 (IntKind.wrap .u64 ((bAnd .u64 (shrI .u64 x0 1) (6148914691236517205 : Int)) + (bAnd .u64 x0 (6148914691236517205 : Int)))) 2) (3689348814741910323 : Int)) + (bAnd .u64 (IntKind.wrap .u64 ((bAnd .u64 (shrI .u64 x0 1) (6148914691236517205 : Int)) + (bAnd .u64 x0 (6148914691236517205 : Int)))) (3689348814741910323 : Int)))))) (1085102592571150095 : Int)) 8))) + (shrI .u64 (IntKind.wrap .u64 ((bAnd .u64 (IntKind.wrap .u64 ((shrI .u64 (IntKind.wrap .u64 ((bAnd .u64 (shrI .u64 (IntKind.wrap .u64 ((bAnd .u64 (shrI .u64 x0 1) (6148914691236517205 : Int)) + (bAnd .u64 x0 (6148914691236517205 : Int)))) 2) (3689348814741910323 : Int)) + (bAnd .u64 (IntKind.wrap .u64 ((bAnd .u64 (shrI .u64 x0 1) (6148914691236517205 : Int)) + (bAnd .u64 x0 (6148914691236517205 : Int)))) (3689348814741910323 : Int)))) 4) + (IntKind.wrap .u64 ((bAnd .u64 (shrI .u64 (IntKind.wrap .u64 ((bAnd .u64 (shrI .u64 x0 1) (6148914691236517205 : Int)) + (bAnd .u64 x0 (6148914691236517205 : Int)))) 2) (3689348814741910323 : Int)) + (bAnd .u64 (IntKind.wrap .u64 ((bAnd .u64 (shrI .u64 x0 1) (6148914691236517205 : Int)) + (bAnd .u64 x0 (6148914691236517205 : Int)))) (3689348814741910323 : Int)))))) (1085102592571150095 : Int)) + (shrI .u64 (bAnd .u64 (IntKind.wrap .u64 ((shrI .u64 (IntKind.wrap .u64 ((bAnd .u64 (shrI .u64 (IntKind.wrap .u64 ((bAnd .u64 (shrI .u64 x0 1) (6148914691236517205 : Int)) + (bAnd .u64 x0 (6148914691236517205 : Int)))) 2) (3689348814741910323 : Int)) + (bAnd .u64 (IntKind.wrap .u64 ((bAnd .u64 (shrI .u64 x0 1) (6148914691236517205 : Int)) + (bAnd .u64 x0 (6148914691236517205 : Int)))) (3689348814741910323 : Int)))) 4) + (IntKind.wrap .u64 ((bAnd .u64 (shrI .u64 (IntKind.wrap .u64 ((bAnd .u64 (shrI .u64 x0 1) (6148914691236517205 : Int)) + (bAnd .u64 x0 (6148914691236517205 : Int)))) 2) (3689348814741910323 : Int)) + (bAnd .u64 (IntKind.wrap .u64 ((bAnd .u64 (shrI .u64 x0 1) (6148914691236517205 : Int)) + (bAnd .u64 x0 (6148914691236517205 : Int)))) (3689348814741910323 : Int)))))) (1085102592571150095 : Int)) 8))) 16))) + (shrI .u64 (IntKind.wrap .u64 ((IntKind.wrap .u64 ((bAnd .u64 (IntKind.wrap .u64 ((shrI .u64 (IntKind.wrap .u64 ((bAnd .u64 (shrI .u64 (IntKind.wrap .u64 ((bAnd .u64 (shrI .u64 x0 1) (6148914691236517205 : Int)) + (bAnd .u64 x0 (6148914691236517205 : Int)))) 2) (3689348814741910323 : Int)) + (bAnd .u64 (IntKind.wrap .u64 ((bAnd .u64 (shrI .u64 x0 1) (6148914691236517205 : Int)) + (bAnd .u64 x0 (6148914691236517205 : Int)))) (3689348814741910323 : Int)))) 4) + (IntKind.wrap .u64 ((bAnd .u64 (shrI .u64 (IntKind.wrap .u64 ((bAnd .u64 (shrI .u64 x0 1) (6148914691236517205 : Int)) + (bAnd .u64 x0 (6148914691236517205 : Int)))) 2) (3689348814741910323 : Int)) + (bAnd .u64 (IntKind.wrap .u64 ((bAnd .u64 (shrI .u64 x0 1) (6148914691236517205 : Int)) + (bAnd .u64 x0 (6148914691236517205 : Int)))) (3689348814741910323 : Int)))))) (1085102592571150095 : Int)) + (shrI .u64 (bAnd .u64 (IntKind.wrap .u64 ((shrI .u64 (IntKind.wrap .u64 ((bAnd .u64 (shrI .u64 (IntKind.wrap .u64 ((bAnd .u64 (shrI .u64 x0 1) (6148914691236517205 : Int)) + (bAnd .u64 x0 (6148914691236517205 : Int)))) 2) (3689348814741910323 : Int)) + (bAnd .u64 (IntKind.wrap .u64 ((bAnd .u64 (shrI .u64 x0 1) (6148914691236517205 : Int)) + (bAnd .u64 x0 (6148914691236517205 : Int)))) (3689348814741910323 : Int)))) 4) + (IntKind.wrap .u64 ((bAnd .u64 (shrI .u64 (IntKind.wrap .u64 ((bAnd .u64 (shrI .u64 x0 1) (6148914691236517205 : Int)) + (bAnd .u64 x0 (6148914691236517205 : Int)))) 2) (3689348814741910323 : Int)) + (bAnd .u64 (IntKind.wrap .u64 ((bAnd .u64 (shrI .u64 x0 1) (6148914691236517205 : Int)) + (bAnd .u64 x0 (6148914691236517205 : Int)))) (3689348814741910323 : Int)))))) (1085102592571150095 : Int)) 8))) + (shrI .u64 (IntKind.wrap .u64 ((bAnd .u64 (IntKind.wrap .u64 ((shrI .u64 (IntKind.wrap .u64 ((bAnd .u64 (shrI .u64 (IntKind.wrap .u64 ((bAnd .u64 (shrI .u64 x0 1) (6148914691236517205 : Int)) + (bAnd .u64 x0 (6148914691236517205 : Int)))) 2) (3689348814741910323 : Int)) + (bAnd .u64 (IntKind.wrap .u64 ((bAnd .u64 (shrI .u64 x0 1) (6148914691236517205 : Int)) + (bAnd .u64 x0 (6148914691236517205 : Int)))) (3689348814741910323 : Int)))) 4) + (IntKind.wrap .u64 ((bAnd .u64 (shrI .u64 (IntKind.wrap .u64 ((bAnd .u64 (shrI .u64 x0 1) (6148914691236517205 : Int)) + (bAnd .u64 x0 (6148914691236517205 : Int)))) 2) (3689348814741910323 : Int)) + (bAnd .u64 (IntKind.wrap .u64 ((bAnd .u64 (shrI .u64 x0 1) (6148914691236517205 : Int)) + (bAnd .u64 x0 (6148914691236517205 : Int)))) (3689348814741910323 : Int)))))) (1085102592571150095 : Int)) + (shrI .u64 (bAnd .u64 (IntKind.wrap .u64 ((shrI .u64 (IntKind.wrap .u64 ((bAnd .u64 (shrI .u64 (IntKind.wrap .u64 ((bAnd .u64 (shrI .u64 x0 1) (6148914691236517205 : Int)) + (bAnd .u64 x0 (6148914691236517205 : Int)))) 2) (3689348814741910323 : Int)) + (bAnd .u64 (IntKind.wrap .u64 ((bAnd .u64 (shrI .u64 x0 1) (6148914691236517205 : Int)) + (bAnd .u64 x0 (6148914691236517205 : Int)))) (3689348814741910323 : Int)))) 4) + (IntKind.wrap .u64 ((bAnd .u64 (shrI .u64 (IntKind.wrap .u64 ((bAnd .u64 (shrI .u64 x0 1) (6148914691236517205 : Int)) + (bAnd .u64 x0 (6148914691236517205 : Int)))) 2) (3689348814741910323 : Int)) + (bAnd .u64 (IntKind.wrap .u64 ((bAnd .u64 (shrI .u64 x0 1) (6148914691236517205 : Int)) + (bAnd .u64 x0 (6148914691236517205 : Int)))) (3689348814741910323 : Int)))))) (1085102592571150095 : Int)) 8))) 16))) 32)))) (127 : Int))
noncomputable def Af80_bits_OnesCount64 : Ann := (.two .nil (.two .nil (.two .nil (.two .nil (.two .nil (.two .nil (.two .nil (.two .nil .nil))))))))
theorem Cf80_bits_OnesCount64_ok : Cf80_bits_OnesCount64.Ok := mkC_ok mixed tysOk zerosOk eqsOk trivial trivial
theorem Ef80_bits_OnesCount64 (x : Int) : evF Cf80_bits_OnesCount64 Try.f80 35 (.int .u64) (.int .i64) Af80_bits_OnesCount64 x = f80_bits_OnesCount64 x := by kernel_rfl
theorem Sf80_bits_OnesCount64 : SoundF Try.prog 80 ⟨(.int .u64), (.int .i64), fun x => f80_bits_OnesCount64 x⟩ :=
  soundF_of Cf80_bits_OnesCount64_ok Try.func80 (by kernel_rfl) (by kernel_rfl) Ef80_bits_OnesCount64
theorem Hf80_bits_OnesCount64 (x0 : Int) : f80_bits_OnesCount64 x0 = ret (Gf80_bits_OnesCount64 x0) := by
  simp only [f80_bits_OnesCount64, Gf80_bits_OnesCount64, bnd_ret, cnd_ret, bnd_cnd]
theorem Pf80_bits_OnesCount64 : SoundP Try.prog 80 ⟨(.int .u64), (.int .i64), fun x => Gf80_bits_OnesCount64 x⟩ := soundP_of Sf80_bits_OnesCount64 fun x => Hf80_bits_OnesCount64 x
noncomputable def Cf60_bits_OnesCount : Ctx := mkC Try.prog tys zeros eqs [(79, ⟨(.int .u32), (.int .i64), fun x => f79_bits_OnesCount32 x⟩)] [(80, ⟨(.int .u64), (.int .i64), fun x => Gf80_bits_OnesCount64 x⟩)]
/-- mathbits.OnesCount -/
noncomputable def f60_bits_OnesCount (x0 : Int) : M Int :=
  cnd false (
  bnd (f79_bits_OnesCount32 (IntKind.wrap .u32 x0)) fun (r1 : Int) =>
  ret r1) (
  ret (Gf80_bits_OnesCount64 x0))
noncomputable def Af60_bits_OnesCount : Ann := (.two .nil (.two (.two (.two .nil .nil) .nil) (.two .nil .nil)))
theorem Cf60_bits_OnesCount_ok : Cf60_bits_OnesCount.Ok := mkC_ok mixed tysOk zerosOk eqsOk ⟨Sf79_bits_OnesCount32, trivial⟩ ⟨Pf80_bits_OnesCount64, trivial⟩
theorem Ef60_bits_OnesCount (x : Int) : evF Cf60_bits_OnesCount Try.f60 8 (.int .u64) (.int .i64) Af60_bits_OnesCount x = f60_bits_OnesCount x := by kernel_rfl
theorem Sf60_bits_OnesCount : SoundF Try.prog 60 ⟨(.int .u64), (.int .i64), fun x => f60_bits_OnesCount x⟩ :=
  soundF_of Cf60_bits_OnesCount_ok Try.func60 (by kernel_rfl) (by kernel_rfl) Ef60_bits_OnesCount
noncomputable def Gf36_bitblt_within (x0 : Int) (x1 : Int) (x2 : Int) : Bool :=
  (cond (decide (x0 ≥ x1)) (decide (x0 ≤ x2)) false)
noncomputable def Cf36_bitblt_within : Ctx := mkC Try.prog tys zeros eqs [] []
/-- palaverbitblt.within -/
noncomputable def f36_bitblt_within (x0 : Int) (x1 : Int) (x2 : Int) : M Bool :=
  ret (cond (decide (x0 ≥ x1)) (decide (x0 ≤ x2)) false)
noncomputable def Af36_bitblt_within : Ann := (.two .nil (.two .nil .nil))
theorem Cf36_bitblt_within_ok : Cf36_bitblt_within.Ok := mkC_ok mixed tysOk zerosOk eqsOk trivial trivial
theorem Ef36_bitblt_within (x : (Int × (Int × Int))) : evF Cf36_bitblt_within Try.f36 15 (.pair (.int .i64) (.pair (.int .i64) (.int .i64))) .bool Af36_bitblt_within x = f36_bitblt_within x.1 x.2.1 x.2.2 := by kernel_rfl
theorem Sf36_bitblt_within : SoundF Try.prog 36 ⟨(.pair (.int .i64) (.pair (.int .i64) (.int .i64))), .bool, fun x => f36_bitblt_within x.1 x.2.1 x.2.2⟩ :=
  soundF_of Cf36_bitblt_within_ok Try.func36 (by kernel_rfl) (by kernel_rfl) Ef36_bitblt_within
theorem Hf36_bitblt_within (x0 : Int) (x1 : Int) (x2 : Int) : f36_bitblt_within x0 x1 x2 = ret (Gf36_bitblt_within x0 x1 x2) := by
  simp only [f36_bitblt_within, Gf36_bitblt_within, bnd_ret, cnd_ret, bnd_cnd]
theorem Pf36_bitblt_within : SoundP Try.prog 36 ⟨(.pair (.int .i64) (.pair (.int .i64) (.int .i64))), .bool, fun x => Gf36_bitblt_within x.1 x.2.1 x.2.2⟩ := soundP_of Sf36_bitblt_within fun x => Hf36_bitblt_within x.1 x.2.1 x.2.2
noncomputable def Cf34_bitblt_stride : Ctx := mkC Try.prog tys zeros eqs [] []
/-- palaverbitblt.stride -/
noncomputable def f34_bitblt_stride (x0 : (Int × (Int × (Int × Sl)))) : M Int :=
  bnd (newC 24 [.int .i64 x0.1, .int .i64 x0.2.1, .int .i64 x0.2.2.1, .slice x0.2.2.2.a x0.2.2.2.len x0.2.2.2.cap]) fun (p1 : Addr) =>
  bnd (ld (.int .i64) (Addr.add p1 0)) fun (v2 : Int) =>
  bnd (ld (.int .i64) (Addr.add p1 2)) fun (v3 : Int) =>
  ret (IntKind.wrap .i64 (Int.tdiv (IntKind.wrap .i64 ((IntKind.wrap .i64 ((IntKind.wrap .i64 (v2 * v3)) + (32 : Int))) - (1 : Int))) (32 : Int)))
noncomputable def Af34_bitblt_stride : Ann := (.two .nil (.two .nil .nil))
theorem Cf34_bitblt_stride_ok : Cf34_bitblt_stride.Ok := mkC_ok mixed tysOk zerosOk eqsOk trivial trivial
theorem Ef34_bitblt_stride (x : (Int × (Int × (Int × Sl)))) : evF Cf34_bitblt_stride Try.f34 11 (.agg (.pair (.int .i64) (.pair (.int .i64) (.pair (.int .i64) .sl)))) (.int .i64) Af34_bitblt_stride x = f34_bitblt_stride x := by kernel_rfl
theorem Sf34_bitblt_stride : SoundF Try.prog 34 ⟨(.agg (.pair (.int .i64) (.pair (.int .i64) (.pair (.int .i64) .sl)))), (.int .i64), fun x => f34_bitblt_stride x⟩ :=
  soundF_of Cf34_bitblt_stride_ok Try.func34 (by kernel_rfl) (by kernel_rfl) Ef34_bitblt_stride
noncomputable def Cf33_bitblt_sized : Ctx := mkC Try.prog tys zeros eqs [(34, ⟨(.agg (.pair (.int .i64) (.pair (.int .i64) (.pair (.int .i64) .sl)))), (.int .i64), fun x => f34_bitblt_stride x⟩), (60, ⟨(.int .u64), (.int .i64), fun x => f60_bits_OnesCount x⟩)] [(36, ⟨(.pair (.int .i64) (.pair (.int .i64) (.int .i64))), .bool, fun x => Gf36_bitblt_within x.1 x.2.1 x.2.2⟩)]
/-- palaverbitblt.sized -/
noncomputable def f33_bitblt_sized (x0 : (Int × (Int × (Int × Sl)))) : M Bool :=
  bnd (newC 24 [.int .i64 x0.1, .int .i64 x0.2.1, .int .i64 x0.2.2.1, .slice x0.2.2.2.a x0.2.2.2.len x0.2.2.2.cap]) fun (p1 : Addr) =>
  bnd (ld (.int .i64) (Addr.add p1 2)) fun (v2 : Int) =>
  bnd (
  cnd (decide (v2 ≥ (1 : Int))) (
  bnd (ld (.int .i64) (Addr.add p1 2)) fun (v3 : Int) =>
  ret (decide (v3 ≤ (32 : Int)))) (
  ret false)) fun (b4 : Bool) =>
  bnd (
  cnd b4 (
  bnd (ld (.int .i64) (Addr.add p1 2)) fun (v5 : Int) =>
  bnd (f60_bits_OnesCount (IntKind.wrap .u64 v5)) fun (r6 : Int) =>
  ret (r6 == (1 : Int))) (
  ret false)) fun (b7 : Bool) =>
  bnd (
  bnd drawM fun _ =>
  cnd b7 (
  bnd (ld (.int .i64) (Addr.add p1 0)) fun (v9 : Int) =>
  bnd (ret ()) fun _ =>
  cnd (Gf36_bitblt_within v9 (0 : Int) (4096 : Int)) (
  bnd (ld (.int .i64) (Addr.add p1 1)) fun (v10 : Int) =>
  bnd (ret ()) fun _ =>
  cnd (Gf36_bitblt_within v10 (0 : Int) (4096 : Int)) (
  bnd (ld (.agg (.pair (.int .i64) (.pair (.int .i64) (.pair (.int .i64) .sl)))) p1) fun (v11 : (Int × (Int × (Int × Sl)))) =>
  bnd (ld (.int .i64) (Addr.add p1 1)) fun (v12 : Int) =>
  bnd (f34_bitblt_stride v11) fun (r13 : Int) =>
  bnd (
  bnd (chk (.int .i64) (Addr.add p1 1) v12) fun _ =>
  ret ()) fun _ =>
  ret (decide ((IntKind.wrap .i64 (r13 * v12)) ≤ (1048576 : Int)))) (
  bnd (ret ()) fun _ =>
  ret false)) (
  bnd (ret ()) fun _ =>
  bnd (ret ()) fun _ =>
  ret false)) (
  bnd (ret ()) fun _ =>
  bnd (ret ()) fun _ =>
  bnd (ret ()) fun _ =>
  ret false)) fun (s8 : Bool) =>
  ret s8
noncomputable def Af33_bitblt_sized : Ann := (.two .nil (.two .nil (.two (.join [(2, .bool)] [19, 20, 21, 22, 23, 24, 25, 26, 27, 28, 29, 30, 31, 32, 33, 34, 35, 36, 37] false (.draw [.o 0, .o 1, .s 20, .o 2, .o 3, .o 4, .o 5, .o 6, .s 25, .o 7, .o 8, .o 9, .o 10, .o 11, .s 30, .o 12, .o 14, .o 15, .o 13, .o 16, .o 17, .o 18, .o 19])) .nil)))
theorem Cf33_bitblt_sized_ok : Cf33_bitblt_sized.Ok := mkC_ok mixed tysOk zerosOk eqsOk ⟨Sf34_bitblt_stride, Sf60_bits_OnesCount, trivial⟩ ⟨Pf36_bitblt_within, trivial⟩
theorem Ef33_bitblt_sized (x : (Int × (Int × (Int × Sl)))) : evF Cf33_bitblt_sized Try.f33 38 (.agg (.pair (.int .i64) (.pair (.int .i64) (.pair (.int .i64) .sl)))) .bool Af33_bitblt_sized x = f33_bitblt_sized x := by kernel_rfl
theorem Sf33_bitblt_sized : SoundF Try.prog 33 ⟨(.agg (.pair (.int .i64) (.pair (.int .i64) (.pair (.int .i64) .sl)))), .bool, fun x => f33_bitblt_sized x⟩ :=
  soundF_of Cf33_bitblt_sized_ok Try.func33 (by kernel_rfl) (by kernel_rfl) Ef33_bitblt_sized
noncomputable def Cf10_bitblt_New : Ctx := mkC Try.prog tys zeros eqs [(33, ⟨(.agg (.pair (.int .i64) (.pair (.int .i64) (.pair (.int .i64) .sl)))), .bool, fun x => f33_bitblt_sized x⟩), (34, ⟨(.agg (.pair (.int .i64) (.pair (.int .i64) (.pair (.int .i64) .sl)))), (.int .i64), fun x => f34_bitblt_stride x⟩)] []
/-- palaverbitblt.New -/
noncomputable def f10_bitblt_New (x0 : Int) (x1 : Int) (x2 : Int) : M ((Int × (Int × (Int × Sl))) × Int) :=
  bnd (newC 24 [.int .i64 (0 : Int), .int .i64 (0 : Int), .int .i64 (0 : Int), .slice none 0 0]) fun (p1 : Addr) =>
  bnd (newC 24 [.int .i64 (0 : Int), .int .i64 (0 : Int), .int .i64 (0 : Int), .slice none 0 0]) fun (p2 : Addr) =>
  bnd (wrs p2 0 [.int .i64 x0, .int .i64 x1, .int .i64 x2, .slice none 0 0]) fun _ =>
  bnd (ld (.agg (.pair (.int .i64) (.pair (.int .i64) (.pair (.int .i64) .sl)))) p2) fun (v3 : (Int × (Int × (Int × Sl)))) =>
  bnd (f33_bitblt_sized v3) fun (r4 : Bool) =>
  cnd (!r4) (
  bnd (wrs p1 0 [.int .i64 (0 : Int), .int .i64 (0 : Int), .int .i64 (0 : Int), .slice none 0 0]) fun _ =>
  bnd (ld (.agg (.pair (.int .i64) (.pair (.int .i64) (.pair (.int .i64) .sl)))) p1) fun (v5 : (Int × (Int × (Int × Sl)))) =>
  ret (v5, (110 : Int))) (
  bnd (ld (.agg (.pair (.int .i64) (.pair (.int .i64) (.pair (.int .i64) .sl)))) p2) fun (v6 : (Int × (Int × (Int × Sl)))) =>
  bnd (f34_bitblt_stride v6) fun (r7 : Int) =>
  bnd (runV Try.prog .sl (Instr.makeSlice 22 (.int .i64 (IntKind.wrap .i64 (r7 * x1))) (.int .i64 (IntKind.wrap .i64 (r7 * x1))))) fun (v8 : Sl) =>
  bnd (wrs (Addr.add p2 3) 0 [.slice v8.a v8.len v8.cap]) fun _ =>
  bnd (ld (.agg (.pair (.int .i64) (.pair (.int .i64) (.pair (.int .i64) .sl)))) p2) fun (v9 : (Int × (Int × (Int × Sl)))) =>
  bnd (wrs p1 0 [.int .i64 v9.1, .int .i64 v9.2.1, .int .i64 v9.2.2.1, .slice v9.2.2.2.a v9.2.2.2.len v9.2.2.2.cap]) fun _ =>
  bnd (ld (.agg (.pair (.int .i64) (.pair (.int .i64) (.pair (.int .i64) .sl)))) p1) fun (v10 : (Int × (Int × (Int × Sl)))) =>
  ret (v10, (0 : Int)))
noncomputable def Af10_bitblt_New : Ann := (.two .nil (.two .nil (.two (.two .nil (.two (.two .nil .nil) .nil)) (.two .nil (.two .nil .nil)))))
theorem Cf10_bitblt_New_ok : Cf10_bitblt_New.Ok := mkC_ok mixed tysOk zerosOk eqsOk ⟨Sf33_bitblt_sized, Sf34_bitblt_stride, trivial⟩ trivial
theorem Ef10_bitblt_New (x : (Int × (Int × Int))) : evF Cf10_bitblt_New Try.f10 24 (.pair (.int .i64) (.pair (.int .i64) (.int .i64))) (.tup (.pair (.agg (.pair (.int .i64) (.pair (.int .i64) (.pair (.int .i64) .sl)))) (.int .i64))) Af10_bitblt_New x = f10_bitblt_New x.1 x.2.1 x.2.2 := by kernel_rfl
theorem Sf10_bitblt_New : SoundF Try.prog 10 ⟨(.pair (.int .i64) (.pair (.int .i64) (.int .i64))), (.tup (.pair (.agg (.pair (.int .i64) (.pair (.int .i64) (.pair (.int .i64) .sl)))) (.int .i64))), fun x => f10_bitblt_New x.1 x.2.1 x.2.2⟩ :=
  soundF_of Cf10_bitblt_New_ok Try.func10 (by kernel_rfl) (by kernel_rfl) Ef10_bitblt_New
noncomputable def Cf14_bitblt_Check : Ctx := mkC Try.prog tys zeros eqs [(33, ⟨(.agg (.pair (.int .i64) (.pair (.int .i64) (.pair (.int .i64) .sl)))), .bool, fun x => f33_bitblt_sized x⟩), (34, ⟨(.agg (.pair (.int .i64) (.pair (.int .i64) (.pair (.int .i64) .sl)))), (.int .i64), fun x => f34_bitblt_stride x⟩)] []
/-- palaverbitblt.Check -/
noncomputable def f14_bitblt_Check (x0 : (Int × (Int × (Int × Sl)))) : M Int :=
  bnd (newC 24 [.int .i64 x0.1, .int .i64 x0.2.1, .int .i64 x0.2.2.1, .slice x0.2.2.2.a x0.2.2.2.len x0.2.2.2.cap]) fun (p1 : Addr) =>
  bnd (
  bnd drawM fun _ =>
  bnd (ld (.agg (.pair (.int .i64) (.pair (.int .i64) (.pair (.int .i64) .sl)))) p1) fun (v3 : (Int × (Int × (Int × Sl)))) =>
  bnd (f33_bitblt_sized v3) fun (r4 : Bool) =>
  bnd (ret ()) fun _ =>
  cnd (!r4) (
  bnd (ret ()) fun _ =>
  ret true) (
  bnd (ld .sl (Addr.add p1 3)) fun (v5 : Sl) =>
  bnd (ld (.agg (.pair (.int .i64) (.pair (.int .i64) (.pair (.int .i64) .sl)))) p1) fun (v6 : (Int × (Int × (Int × Sl)))) =>
  bnd (ld (.int .i64) (Addr.add p1 1)) fun (v7 : Int) =>
  bnd (f34_bitblt_stride v6) fun (r8 : Int) =>
  bnd (
  bnd (chk (.int .i64) (Addr.add p1 1) v7) fun _ =>
  bnd (chk .sl (Addr.add p1 3) v5) fun _ =>
  ret ()) fun _ =>
  ret ((v5.len : Int) != (IntKind.wrap .i64 (r8 * v7))))) fun (s2 : Bool) =>
  cnd s2 (
  ret (110 : Int)) (
  ret (0 : Int))
noncomputable def Af14_bitblt_Check : Ann := (.two .nil (.two (.two (.join [(16, .bool)] [3, 4, 5, 6, 7, 8, 9, 10, 11, 12, 13, 14, 15] false (.draw [.o 0, .o 1, .o 2, .o 3, .s 6, .o 4, .o 5, .o 6, .o 7, .o 9, .o 10, .o 8, .o 11, .o 12, .o 13])) (.two (.two .nil .nil) .nil)) (.two .nil .nil)))
theorem Cf14_bitblt_Check_ok : Cf14_bitblt_Check.Ok := mkC_ok mixed tysOk zerosOk eqsOk ⟨Sf33_bitblt_sized, Sf34_bitblt_stride, trivial⟩ trivial
theorem Ef14_bitblt_Check (x : (Int × (Int × (Int × Sl)))) : evF Cf14_bitblt_Check Try.f14 17 (.agg (.pair (.int .i64) (.pair (.int .i64) (.pair (.int .i64) .sl)))) (.int .i64) Af14_bitblt_Check x = f14_bitblt_Check x := by kernel_rfl
theorem Sf14_bitblt_Check : SoundF Try.prog 14 ⟨(.agg (.pair (.int .i64) (.pair (.int .i64) (.pair (.int .i64) .sl)))), (.int .i64), fun x => f14_bitblt_Check x⟩ :=
  soundF_of Cf14_bitblt_Check_ok Try.func14 (by kernel_rfl) (by kernel_rfl) Ef14_bitblt_Check
noncomputable def Cf37_bitblt_place : Ctx := mkC Try.prog tys zeros eqs [(34, ⟨(.agg (.pair (.int .i64) (.pair (.int .i64) (.pair (.int .i64) .sl)))), (.int .i64), fun x => f34_bitblt_stride x⟩)] []
/-- palaverbitblt.place -/
noncomputable def f37_bitblt_place (x0 : (Int × (Int × (Int × Sl)))) (x1 : Int) (x2 : Int) : M (Int × Int) :=
  bnd (newC 24 [.int .i64 x0.1, .int .i64 x0.2.1, .int .i64 x0.2.2.1, .slice x0.2.2.2.a x0.2.2.2.len x0.2.2.2.cap]) fun (p1 : Addr) =>
  bnd (ld (.int .i64) (Addr.add p1 2)) fun (v2 : Int) =>
  bnd drawM fun _ =>
  bnd (ld (.agg (.pair (.int .i64) (.pair (.int .i64) (.pair (.int .i64) .sl)))) p1) fun (v3 : (Int × (Int × (Int × Sl)))) =>
  bnd (ld (.int .i64) (Addr.add p1 2)) fun (v4 : Int) =>
  bnd (f34_bitblt_stride v3) fun (r5 : Int) =>
  bnd (
  bnd (chk (.int .i64) (Addr.add p1 2) v4) fun _ =>
  ret ()) fun _ =>
  ret ((IntKind.wrap .i64 ((IntKind.wrap .i64 (x2 * r5)) + (IntKind.wrap .i64 (Int.tdiv (IntKind.wrap .i64 (x1 * v2)) (32 : Int))))), (IntKind.wrap .i64 ((IntKind.wrap .i64 ((32 : Int) - (Int.tmod (IntKind.wrap .i64 (x1 * v2)) (32 : Int)))) - v4)))
noncomputable def Af37_bitblt_place : Ann := (.two .nil (.two .nil (.two (.draw [.o 0, .o 1, .o 4, .o 5, .o 7, .o 8, .o 9, .o 10, .o 11, .o 12, .o 2, .o 3, .o 6, .o 13, .o 14]) .nil)))
theorem Cf37_bitblt_place_ok : Cf37_bitblt_place.Ok := mkC_ok mixed tysOk zerosOk eqsOk ⟨Sf34_bitblt_stride, trivial⟩ trivial
theorem Ef37_bitblt_place (x : ((Int × (Int × (Int × Sl))) × (Int × Int))) : evF Cf37_bitblt_place Try.f37 26 (.pair (.agg (.pair (.int .i64) (.pair (.int .i64) (.pair (.int .i64) .sl)))) (.pair (.int .i64) (.int .i64))) (.tup (.pair (.int .i64) (.int .i64))) Af37_bitblt_place x = f37_bitblt_place x.1 x.2.1 x.2.2 := by kernel_rfl
theorem Sf37_bitblt_place : SoundF Try.prog 37 ⟨(.pair (.agg (.pair (.int .i64) (.pair (.int .i64) (.pair (.int .i64) .sl)))) (.pair (.int .i64) (.int .i64))), (.tup (.pair (.int .i64) (.int .i64))), fun x => f37_bitblt_place x.1 x.2.1 x.2.2⟩ :=
  soundF_of Cf37_bitblt_place_ok Try.func37 (by kernel_rfl) (by kernel_rfl) Ef37_bitblt_place
noncomputable def Cf38_bitblt_ones : Ctx := mkC Try.prog tys zeros eqs [] []
/-- palaverbitblt.ones -/
noncomputable def f38_bitblt_ones (x0 : Int) : M Int :=
  bnd (cnt x0) fun (c1 : Nat) =>
  ret (IntKind.wrap .u32 ((shlI .u32 (1 : Int) c1) - (1 : Int)))
noncomputable def Af38_bitblt_ones : Ann := (.two .nil (.two .nil .nil))
theorem Cf38_bitblt_ones_ok : Cf38_bitblt_ones.Ok := mkC_ok mixed tysOk zerosOk eqsOk trivial trivial
theorem Ef38_bitblt_ones (x : Int) : evF Cf38_bitblt_ones Try.f38 6 (.int .i64) (.int .u32) Af38_bitblt_ones x = f38_bitblt_ones x := by kernel_rfl
theorem Sf38_bitblt_ones : SoundF Try.prog 38 ⟨(.int .i64), (.int .u32), fun x => f38_bitblt_ones x⟩ :=
  soundF_of Cf38_bitblt_ones_ok Try.func38 (by kernel_rfl) (by kernel_rfl) Ef38_bitblt_ones
noncomputable def Cf16_bitblt_Pixel : Ctx := mkC Try.prog tys zeros eqs [(14, ⟨(.agg (.pair (.int .i64) (.pair (.int .i64) (.pair (.int .i64) .sl)))), (.int .i64), fun x => f14_bitblt_Check x⟩), (37, ⟨(.pair (.agg (.pair (.int .i64) (.pair (.int .i64) (.pair (.int .i64) .sl)))) (.pair (.int .i64) (.int .i64))), (.tup (.pair (.int .i64) (.int .i64))), fun x => f37_bitblt_place x.1 x.2.1 x.2.2⟩), (38, ⟨(.int .i64), (.int .u32), fun x => f38_bitblt_ones x⟩)] [(36, ⟨(.pair (.int .i64) (.pair (.int .i64) (.int .i64))), .bool, fun x => Gf36_bitblt_within x.1 x.2.1 x.2.2⟩)]
/-- palaverbitblt.Pixel -/
noncomputable def f16_bitblt_Pixel (x0 : (Int × (Int × (Int × Sl)))) (x1 : Int) (x2 : Int) : M (Int × Int) :=
  bnd (newC 24 [.int .i64 x0.1, .int .i64 x0.2.1, .int .i64 x0.2.2.1, .slice x0.2.2.2.a x0.2.2.2.len x0.2.2.2.cap]) fun (p1 : Addr) =>
  bnd (ld (.agg (.pair (.int .i64) (.pair (.int .i64) (.pair (.int .i64) .sl)))) p1) fun (v2 : (Int × (Int × (Int × Sl)))) =>
  bnd (f14_bitblt_Check v2) fun (r3 : Int) =>
  cnd (r3 != (0 : Int)) (
  ret ((0 : Int), r3)) (
  bnd (ld (.int .i64) (Addr.add p1 0)) fun (v4 : Int) =>
  bnd (
  cnd (!(Gf36_bitblt_within x1 (0 : Int) (IntKind.wrap .i64 (v4 - (1 : Int))))) (
  ret true) (
  bnd (ld (.int .i64) (Addr.add p1 1)) fun (v5 : Int) =>
  ret (!(Gf36_bitblt_within x2 (0 : Int) (IntKind.wrap .i64 (v5 - (1 : Int))))))) fun (b6 : Bool) =>
  cnd b6 (
  ret ((0 : Int), (1 : Int))) (
  bnd (ld (.agg (.pair (.int .i64) (.pair (.int .i64) (.pair (.int .i64) .sl)))) p1) fun (v7 : (Int × (Int × (Int × Sl)))) =>
  bnd (f37_bitblt_place v7 x1 x2) fun (r8 : (Int × Int)) =>
  bnd drawM fun _ =>
  bnd (ld .sl (Addr.add p1 3)) fun (v9 : Sl) =>
  bnd (ix 1 v9 r8.1) fun (p10 : Addr) =>
  bnd (ld (.int .u32) p10) fun (v11 : Int) =>
  bnd (cnt r8.2) fun (c12 : Nat) =>
  bnd (ld (.int .i64) (Addr.add p1 2)) fun (v13 : Int) =>
  bnd (f38_bitblt_ones v13) fun (r14 : Int) =>
  bnd (
  bnd (chk (.int .u32) p10 v11) fun _ =>
  bnd (chk .sl (Addr.add p1 3) v9) fun _ =>
  ret ()) fun _ =>
  ret ((bAnd .u32 (shrI .u32 v11 c12) r14), (0 : Int))))
noncomputable def Af16_bitblt_Pixel : Ann := (.two .nil (.two (.two .nil (.two .nil (.two (.two .nil .nil) .nil))) (.two (.two .nil (.two (.two .nil .nil) .nil)) (.two .nil (.two (.draw [.o 0, .o 1, .o 2, .o 3, .o 4, .o 5, .o 6, .o 7, .o 8, .o 9, .o 10, .o 11, .o 12]) .nil)))))
theorem Cf16_bitblt_Pixel_ok : Cf16_bitblt_Pixel.Ok := mkC_ok mixed tysOk zerosOk eqsOk ⟨Sf14_bitblt_Check, Sf37_bitblt_place, Sf38_bitblt_ones, trivial⟩ ⟨Pf36_bitblt_within, trivial⟩
theorem Ef16_bitblt_Pixel (x : ((Int × (Int × (Int × Sl))) × (Int × Int))) : evF Cf16_bitblt_Pixel Try.f16 48 (.pair (.agg (.pair (.int .i64) (.pair (.int .i64) (.pair (.int .i64) .sl)))) (.pair (.int .i64) (.int .i64))) (.tup (.pair (.int .u32) (.int .i64))) Af16_bitblt_Pixel x = f16_bitblt_Pixel x.1 x.2.1 x.2.2 := by kernel_rfl
theorem Sf16_bitblt_Pixel : SoundF Try.prog 16 ⟨(.pair (.agg (.pair (.int .i64) (.pair (.int .i64) (.pair (.int .i64) .sl)))) (.pair (.int .i64) (.int .i64))), (.tup (.pair (.int .u32) (.int .i64))), fun x => f16_bitblt_Pixel x.1 x.2.1 x.2.2⟩ :=
  soundF_of Cf16_bitblt_Pixel_ok Try.func16 (by kernel_rfl) (by kernel_rfl) Ef16_bitblt_Pixel
noncomputable def Cf40_slices_Cloneuint32_uint32 : Ctx := mkC Try.prog tys zeros eqs [] []
/-- slices.Cloneuint32uint32 -/
noncomputable def f40_slices_Cloneuint32_uint32 (x0 : Sl) : M Sl :=
  cnd (Option.isNone x0.a) (
  ret (Sl.mk none 0 0)) (
  bnd (runV Try.prog .sl (Instr.buildSlice 22 0 #[])) fun (v1 : Sl) =>
  bnd (runV Try.prog .sl (Builtin.append_ #[22, 22] 22 #[.slice v1.a v1.len v1.cap, .slice x0.a x0.len x0.cap])) fun (v2 : Sl) =>
  ret v2)
noncomputable def Af40_slices_Cloneuint32_uint32 : Ann := (.two .nil (.two (.two .nil (.two (.two .nil .nil) .nil)) (.two .nil .nil)))
theorem Cf40_slices_Cloneuint32_uint32_ok : Cf40_slices_Cloneuint32_uint32.Ok := mkC_ok mixed tysOk zerosOk eqsOk trivial trivial
theorem Ef40_slices_Cloneuint32_uint32 (x : Sl) : evF Cf40_slices_Cloneuint32_uint32 Try.f40 8 .sl .sl Af40_slices_Cloneuint32_uint32 x = f40_slices_Cloneuint32_uint32 x := by kernel_rfl
theorem Sf40_slices_Cloneuint32_uint32 : SoundF Try.prog 40 ⟨.sl, .sl, fun x => f40_slices_Cloneuint32_uint32 x⟩ :=
  soundF_of Cf40_slices_Cloneuint32_uint32_ok Try.func40 (by kernel_rfl) (by kernel_rfl) Ef40_slices_Cloneuint32_uint32
noncomputable def Cf18_bitblt_Put : Ctx := mkC Try.prog tys zeros eqs [(16, ⟨(.pair (.agg (.pair (.int .i64) (.pair (.int .i64) (.pair (.int .i64) .sl)))) (.pair (.int .i64) (.int .i64))), (.tup (.pair (.int .u32) (.int .i64))), fun x => f16_bitblt_Pixel x.1 x.2.1 x.2.2⟩), (37, ⟨(.pair (.agg (.pair (.int .i64) (.pair (.int .i64) (.pair (.int .i64) .sl)))) (.pair (.int .i64) (.int .i64))), (.tup (.pair (.int .i64) (.int .i64))), fun x => f37_bitblt_place x.1 x.2.1 x.2.2⟩), (38, ⟨(.int .i64), (.int .u32), fun x => f38_bitblt_ones x⟩), (40, ⟨.sl, .sl, fun x => f40_slices_Cloneuint32_uint32 x⟩)] []
/-- palaverbitblt.Put -/
noncomputable def f18_bitblt_Put (x0 : (Int × (Int × (Int × Sl)))) (x1 : Int) (x2 : Int) (x3 : Int) : M ((Int × (Int × (Int × Sl))) × Int) :=
  bnd (newC 24 [.int .i64 x0.1, .int .i64 x0.2.1, .int .i64 x0.2.2.1, .slice x0.2.2.2.a x0.2.2.2.len x0.2.2.2.cap]) fun (p1 : Addr) =>
  bnd (newC 24 [.int .i64 (0 : Int), .int .i64 (0 : Int), .int .i64 (0 : Int), .slice none 0 0]) fun (p2 : Addr) =>
  bnd (ld (.agg (.pair (.int .i64) (.pair (.int .i64) (.pair (.int .i64) .sl)))) p1) fun (v3 : (Int × (Int × (Int × Sl)))) =>
  bnd (f16_bitblt_Pixel v3 x1 x2) fun (r4 : (Int × Int)) =>
  cnd (r4.2 != (0 : Int)) (
  bnd (wrs p2 0 [.int .i64 (0 : Int), .int .i64 (0 : Int), .int .i64 (0 : Int), .slice none 0 0]) fun _ =>
  bnd (ld (.agg (.pair (.int .i64) (.pair (.int .i64) (.pair (.int .i64) .sl)))) p2) fun (v5 : (Int × (Int × (Int × Sl)))) =>
  ret (v5, r4.2)) (
  bnd (ld (.int .i64) (Addr.add p1 2)) fun (v6 : Int) =>
  bnd (f38_bitblt_ones v6) fun (r7 : Int) =>
  cnd ((bAndNot .u32 x3 r7) != (0 : Int)) (
  bnd (wrs p2 0 [.int .i64 (0 : Int), .int .i64 (0 : Int), .int .i64 (0 : Int), .slice none 0 0]) fun _ =>
  bnd (ld (.agg (.pair (.int .i64) (.pair (.int .i64) (.pair (.int .i64) .sl)))) p2) fun (v8 : (Int × (Int × (Int × Sl)))) =>
  ret (v8, (1 : Int))) (
  bnd (ld (.agg (.pair (.int .i64) (.pair (.int .i64) (.pair (.int .i64) .sl)))) p1) fun (v9 : (Int × (Int × (Int × Sl)))) =>
  bnd (f37_bitblt_place v9 x1 x2) fun (r10 : (Int × Int)) =>
  bnd (ld .sl (Addr.add p1 3)) fun (v11 : Sl) =>
  bnd (f40_slices_Cloneuint32_uint32 v11) fun (r12 : Sl) =>
  bnd (wrs (Addr.add p1 3) 0 [.slice r12.a r12.len r12.cap]) fun _ =>
  bnd drawM fun _ =>
  bnd (ld .sl (Addr.add p1 3)) fun (v13 : Sl) =>
  bnd (ix 1 v13 r10.1) fun (p14 : Addr) =>
  bnd (ld (.int .u32) p14) fun (v15 : Int) =>
  bnd (cnt r10.2) fun (c16 : Nat) =>
  bnd (ix 1 v13 r10.1) fun (p17 : Addr) =>
  bnd (wrs p17 0 [.int .u32 (bXor .u32 v15 (shlI .u32 (bXor .u32 r4.1 x3) c16))]) fun _ =>
  bnd (ret ()) fun _ =>
  bnd (ld (.agg (.pair (.int .i64) (.pair (.int .i64) (.pair (.int .i64) .sl)))) p1) fun (v18 : (Int × (Int × (Int × Sl)))) =>
  bnd (wrs p2 0 [.int .i64 v18.1, .int .i64 v18.2.1, .int .i64 v18.2.2.1, .slice v18.2.2.2.a v18.2.2.2.len v18.2.2.2.cap]) fun _ =>
  bnd (ld (.agg (.pair (.int .i64) (.pair (.int .i64) (.pair (.int .i64) .sl)))) p2) fun (v19 : (Int × (Int × (Int × Sl)))) =>
  ret (v19, (0 : Int))))
noncomputable def Af18_bitblt_Put : Ann := (.two .nil (.two .nil (.two (.one (.two .nil (.two (.two .nil .nil) (.two .nil (.two (.two .nil .nil) .nil))))) (.two .nil (.two .nil (.two (.draw [.o 0, .o 1, .o 2, .o 3, .o 4, .o 5, .o 6, .o 7, .o 8, .o 9, .o 10, .o 11, .o 12]) (.two .nil .nil)))))))
theorem Cf18_bitblt_Put_ok : Cf18_bitblt_Put.Ok := mkC_ok mixed tysOk zerosOk eqsOk ⟨Sf16_bitblt_Pixel, Sf37_bitblt_place, Sf38_bitblt_ones, Sf40_slices_Cloneuint32_uint32, trivial⟩ trivial
theorem Ef18_bitblt_Put (x : ((Int × (Int × (Int × Sl))) × (Int × (Int × Int)))) : evF Cf18_bitblt_Put Try.f18 58 (.pair (.agg (.pair (.int .i64) (.pair (.int .i64) (.pair (.int .i64) .sl)))) (.pair (.int .i64) (.pair (.int .i64) (.int .u32)))) (.tup (.pair (.agg (.pair (.int .i64) (.pair (.int .i64) (.pair (.int .i64) .sl)))) (.int .i64))) Af18_bitblt_Put x = f18_bitblt_Put x.1 x.2.1 x.2.2.1 x.2.2.2 := by kernel_rfl
theorem Sf18_bitblt_Put : SoundF Try.prog 18 ⟨(.pair (.agg (.pair (.int .i64) (.pair (.int .i64) (.pair (.int .i64) .sl)))) (.pair (.int .i64) (.pair (.int .i64) (.int .u32)))), (.tup (.pair (.agg (.pair (.int .i64) (.pair (.int .i64) (.pair (.int .i64) .sl)))) (.int .i64))), fun x => f18_bitblt_Put x.1 x.2.1 x.2.2.1 x.2.2.2⟩ :=
  soundF_of Cf18_bitblt_Put_ok Try.func18 (by kernel_rfl) (by kernel_rfl) Ef18_bitblt_Put
noncomputable def Gf61_bitblt_ruled_1 (x0 : Int) (x1 : Int) : Int :=
  (0 : Int)
noncomputable def Cf61_bitblt_ruled_1 : Ctx := mkC Try.prog tys zeros eqs [] []
/-- palaverbitblt.ruled$1 -/
noncomputable def f61_bitblt_ruled_1 (x0 : Int) (x1 : Int) : M Int :=
  ret (0 : Int)
noncomputable def Af61_bitblt_ruled_1 : Ann := (.two .nil (.two .nil .nil))
theorem Cf61_bitblt_ruled_1_ok : Cf61_bitblt_ruled_1.Ok := mkC_ok mixed tysOk zerosOk eqsOk trivial trivial
theorem Ef61_bitblt_ruled_1 (x : (Int × Int)) : evF Cf61_bitblt_ruled_1 Try.f61 5 (.pair (.int .u32) (.int .u32)) (.int .u32) Af61_bitblt_ruled_1 x = f61_bitblt_ruled_1 x.1 x.2 := by kernel_rfl
theorem Sf61_bitblt_ruled_1 : SoundF Try.prog 61 ⟨(.pair (.int .u32) (.int .u32)), (.int .u32), fun x => f61_bitblt_ruled_1 x.1 x.2⟩ :=
  soundF_of Cf61_bitblt_ruled_1_ok Try.func61 (by kernel_rfl) (by kernel_rfl) Ef61_bitblt_ruled_1
theorem Hf61_bitblt_ruled_1 (x0 : Int) (x1 : Int) : f61_bitblt_ruled_1 x0 x1 = ret (Gf61_bitblt_ruled_1 x0 x1) := by
  simp only [f61_bitblt_ruled_1, Gf61_bitblt_ruled_1, bnd_ret, cnd_ret, bnd_cnd]
theorem Pf61_bitblt_ruled_1 : SoundP Try.prog 61 ⟨(.pair (.int .u32) (.int .u32)), (.int .u32), fun x => Gf61_bitblt_ruled_1 x.1 x.2⟩ := soundP_of Sf61_bitblt_ruled_1 fun x => Hf61_bitblt_ruled_1 x.1 x.2
noncomputable def Gf62_bitblt_ruled_2 (x0 : Int) (x1 : Int) : Int :=
  (bAnd .u32 x0 x1)
noncomputable def Cf62_bitblt_ruled_2 : Ctx := mkC Try.prog tys zeros eqs [] []
/-- palaverbitblt.ruled$2 -/
noncomputable def f62_bitblt_ruled_2 (x0 : Int) (x1 : Int) : M Int :=
  ret (bAnd .u32 x0 x1)
noncomputable def Af62_bitblt_ruled_2 : Ann := (.two .nil (.two .nil .nil))
theorem Cf62_bitblt_ruled_2_ok : Cf62_bitblt_ruled_2.Ok := mkC_ok mixed tysOk zerosOk eqsOk trivial trivial
theorem Ef62_bitblt_ruled_2 (x : (Int × Int)) : evF Cf62_bitblt_ruled_2 Try.f62 8 (.pair (.int .u32) (.int .u32)) (.int .u32) Af62_bitblt_ruled_2 x = f62_bitblt_ruled_2 x.1 x.2 := by kernel_rfl
theorem Sf62_bitblt_ruled_2 : SoundF Try.prog 62 ⟨(.pair (.int .u32) (.int .u32)), (.int .u32), fun x => f62_bitblt_ruled_2 x.1 x.2⟩ :=
  soundF_of Cf62_bitblt_ruled_2_ok Try.func62 (by kernel_rfl) (by kernel_rfl) Ef62_bitblt_ruled_2
theorem Hf62_bitblt_ruled_2 (x0 : Int) (x1 : Int) : f62_bitblt_ruled_2 x0 x1 = ret (Gf62_bitblt_ruled_2 x0 x1) := by
  simp only [f62_bitblt_ruled_2, Gf62_bitblt_ruled_2, bnd_ret, cnd_ret, bnd_cnd]
theorem Pf62_bitblt_ruled_2 : SoundP Try.prog 62 ⟨(.pair (.int .u32) (.int .u32)), (.int .u32), fun x => Gf62_bitblt_ruled_2 x.1 x.2⟩ := soundP_of Sf62_bitblt_ruled_2 fun x => Hf62_bitblt_ruled_2 x.1 x.2
noncomputable def Gf63_bitblt_ruled_3 (x0 : Int) (x1 : Int) : Int :=
  (bAndNot .u32 x0 x1)
noncomputable def Cf63_bitblt_ruled_3 : Ctx := mkC Try.prog tys zeros eqs [] []
/-- palaverbitblt.ruled$3 -/
noncomputable def f63_bitblt_ruled_3 (x0 : Int) (x1 : Int) : M Int :=
  ret (bAndNot .u32 x0 x1)
noncomputable def Af63_bitblt_ruled_3 : Ann := (.two .nil (.two .nil .nil))
theorem Cf63_bitblt_ruled_3_ok : Cf63_bitblt_ruled_3.Ok := mkC_ok mixed tysOk zerosOk eqsOk trivial trivial
theorem Ef63_bitblt_ruled_3 (x : (Int × Int)) : evF Cf63_bitblt_ruled_3 Try.f63 8 (.pair (.int .u32) (.int .u32)) (.int .u32) Af63_bitblt_ruled_3 x = f63_bitblt_ruled_3 x.1 x.2 := by kernel_rfl
theorem Sf63_bitblt_ruled_3 : SoundF Try.prog 63 ⟨(.pair (.int .u32) (.int .u32)), (.int .u32), fun x => f63_bitblt_ruled_3 x.1 x.2⟩ :=
  soundF_of Cf63_bitblt_ruled_3_ok Try.func63 (by kernel_rfl) (by kernel_rfl) Ef63_bitblt_ruled_3
theorem Hf63_bitblt_ruled_3 (x0 : Int) (x1 : Int) : f63_bitblt_ruled_3 x0 x1 = ret (Gf63_bitblt_ruled_3 x0 x1) := by
  simp only [f63_bitblt_ruled_3, Gf63_bitblt_ruled_3, bnd_ret, cnd_ret, bnd_cnd]
theorem Pf63_bitblt_ruled_3 : SoundP Try.prog 63 ⟨(.pair (.int .u32) (.int .u32)), (.int .u32), fun x => Gf63_bitblt_ruled_3 x.1 x.2⟩ := soundP_of Sf63_bitblt_ruled_3 fun x => Hf63_bitblt_ruled_3 x.1 x.2
noncomputable def Gf64_bitblt_ruled_4 (x0 : Int) (x1 : Int) : Int :=
  x0
noncomputable def Cf64_bitblt_ruled_4 : Ctx := mkC Try.prog tys zeros eqs [] []
/-- palaverbitblt.ruled$4 -/
noncomputable def f64_bitblt_ruled_4 (x0 : Int) (x1 : Int) : M Int :=
  ret x0
noncomputable def Af64_bitblt_ruled_4 : Ann := (.two .nil (.two .nil .nil))
theorem Cf64_bitblt_ruled_4_ok : Cf64_bitblt_ruled_4.Ok := mkC_ok mixed tysOk zerosOk eqsOk trivial trivial
theorem Ef64_bitblt_ruled_4 (x : (Int × Int)) : evF Cf64_bitblt_ruled_4 Try.f64 6 (.pair (.int .u32) (.int .u32)) (.int .u32) Af64_bitblt_ruled_4 x = f64_bitblt_ruled_4 x.1 x.2 := by kernel_rfl
theorem Sf64_bitblt_ruled_4 : SoundF Try.prog 64 ⟨(.pair (.int .u32) (.int .u32)), (.int .u32), fun x => f64_bitblt_ruled_4 x.1 x.2⟩ :=
  soundF_of Cf64_bitblt_ruled_4_ok Try.func64 (by kernel_rfl) (by kernel_rfl) Ef64_bitblt_ruled_4
theorem Hf64_bitblt_ruled_4 (x0 : Int) (x1 : Int) : f64_bitblt_ruled_4 x0 x1 = ret (Gf64_bitblt_ruled_4 x0 x1) := by
  simp only [f64_bitblt_ruled_4, Gf64_bitblt_ruled_4, bnd_ret, cnd_ret, bnd_cnd]
theorem Pf64_bitblt_ruled_4 : SoundP Try.prog 64 ⟨(.pair (.int .u32) (.int .u32)), (.int .u32), fun x => Gf64_bitblt_ruled_4 x.1 x.2⟩ := soundP_of Sf64_bitblt_ruled_4 fun x => Hf64_bitblt_ruled_4 x.1 x.2
noncomputable def Gf65_bitblt_ruled_5 (x0 : Int) (x1 : Int) : Int :=
  (bAndNot .u32 x1 x0)
noncomputable def Cf65_bitblt_ruled_5 : Ctx := mkC Try.prog tys zeros eqs [] []
/-- palaverbitblt.ruled$5 -/
noncomputable def f65_bitblt_ruled_5 (x0 : Int) (x1 : Int) : M Int :=
  ret (bAndNot .u32 x1 x0)
noncomputable def Af65_bitblt_ruled_5 : Ann := (.two .nil (.two .nil .nil))
theorem Cf65_bitblt_ruled_5_ok : Cf65_bitblt_ruled_5.Ok := mkC_ok mixed tysOk zerosOk eqsOk trivial trivial
theorem Ef65_bitblt_ruled_5 (x : (Int × Int)) : evF Cf65_bitblt_ruled_5 Try.f65 8 (.pair (.int .u32) (.int .u32)) (.int .u32) Af65_bitblt_ruled_5 x = f65_bitblt_ruled_5 x.1 x.2 := by kernel_rfl
theorem Sf65_bitblt_ruled_5 : SoundF Try.prog 65 ⟨(.pair (.int .u32) (.int .u32)), (.int .u32), fun x => f65_bitblt_ruled_5 x.1 x.2⟩ :=
  soundF_of Cf65_bitblt_ruled_5_ok Try.func65 (by kernel_rfl) (by kernel_rfl) Ef65_bitblt_ruled_5
theorem Hf65_bitblt_ruled_5 (x0 : Int) (x1 : Int) : f65_bitblt_ruled_5 x0 x1 = ret (Gf65_bitblt_ruled_5 x0 x1) := by
  simp only [f65_bitblt_ruled_5, Gf65_bitblt_ruled_5, bnd_ret, cnd_ret, bnd_cnd]
theorem Pf65_bitblt_ruled_5 : SoundP Try.prog 65 ⟨(.pair (.int .u32) (.int .u32)), (.int .u32), fun x => Gf65_bitblt_ruled_5 x.1 x.2⟩ := soundP_of Sf65_bitblt_ruled_5 fun x => Hf65_bitblt_ruled_5 x.1 x.2
noncomputable def Gf66_bitblt_ruled_6 (x0 : Int) (x1 : Int) : Int :=
  x1
noncomputable def Cf66_bitblt_ruled_6 : Ctx := mkC Try.prog tys zeros eqs [] []
/-- palaverbitblt.ruled$6 -/
noncomputable def f66_bitblt_ruled_6 (x0 : Int) (x1 : Int) : M Int :=
  ret x1
noncomputable def Af66_bitblt_ruled_6 : Ann := (.two .nil (.two .nil .nil))
theorem Cf66_bitblt_ruled_6_ok : Cf66_bitblt_ruled_6.Ok := mkC_ok mixed tysOk zerosOk eqsOk trivial trivial
theorem Ef66_bitblt_ruled_6 (x : (Int × Int)) : evF Cf66_bitblt_ruled_6 Try.f66 6 (.pair (.int .u32) (.int .u32)) (.int .u32) Af66_bitblt_ruled_6 x = f66_bitblt_ruled_6 x.1 x.2 := by kernel_rfl
theorem Sf66_bitblt_ruled_6 : SoundF Try.prog 66 ⟨(.pair (.int .u32) (.int .u32)), (.int .u32), fun x => f66_bitblt_ruled_6 x.1 x.2⟩ :=
  soundF_of Cf66_bitblt_ruled_6_ok Try.func66 (by kernel_rfl) (by kernel_rfl) Ef66_bitblt_ruled_6
theorem Hf66_bitblt_ruled_6 (x0 : Int) (x1 : Int) : f66_bitblt_ruled_6 x0 x1 = ret (Gf66_bitblt_ruled_6 x0 x1) := by
  simp only [f66_bitblt_ruled_6, Gf66_bitblt_ruled_6, bnd_ret, cnd_ret, bnd_cnd]
theorem Pf66_bitblt_ruled_6 : SoundP Try.prog 66 ⟨(.pair (.int .u32) (.int .u32)), (.int .u32), fun x => Gf66_bitblt_ruled_6 x.1 x.2⟩ := soundP_of Sf66_bitblt_ruled_6 fun x => Hf66_bitblt_ruled_6 x.1 x.2
noncomputable def Gf67_bitblt_ruled_7 (x0 : Int) (x1 : Int) : Int :=
  (bXor .u32 x0 x1)
noncomputable def Cf67_bitblt_ruled_7 : Ctx := mkC Try.prog tys zeros eqs [] []
/-- palaverbitblt.ruled$7 -/
noncomputable def f67_bitblt_ruled_7 (x0 : Int) (x1 : Int) : M Int :=
  ret (bXor .u32 x0 x1)
noncomputable def Af67_bitblt_ruled_7 : Ann := (.two .nil (.two .nil .nil))
theorem Cf67_bitblt_ruled_7_ok : Cf67_bitblt_ruled_7.Ok := mkC_ok mixed tysOk zerosOk eqsOk trivial trivial
theorem Ef67_bitblt_ruled_7 (x : (Int × Int)) : evF Cf67_bitblt_ruled_7 Try.f67 8 (.pair (.int .u32) (.int .u32)) (.int .u32) Af67_bitblt_ruled_7 x = f67_bitblt_ruled_7 x.1 x.2 := by kernel_rfl
theorem Sf67_bitblt_ruled_7 : SoundF Try.prog 67 ⟨(.pair (.int .u32) (.int .u32)), (.int .u32), fun x => f67_bitblt_ruled_7 x.1 x.2⟩ :=
  soundF_of Cf67_bitblt_ruled_7_ok Try.func67 (by kernel_rfl) (by kernel_rfl) Ef67_bitblt_ruled_7
theorem Hf67_bitblt_ruled_7 (x0 : Int) (x1 : Int) : f67_bitblt_ruled_7 x0 x1 = ret (Gf67_bitblt_ruled_7 x0 x1) := by
  simp only [f67_bitblt_ruled_7, Gf67_bitblt_ruled_7, bnd_ret, cnd_ret, bnd_cnd]
theorem Pf67_bitblt_ruled_7 : SoundP Try.prog 67 ⟨(.pair (.int .u32) (.int .u32)), (.int .u32), fun x => Gf67_bitblt_ruled_7 x.1 x.2⟩ := soundP_of Sf67_bitblt_ruled_7 fun x => Hf67_bitblt_ruled_7 x.1 x.2
noncomputable def Gf68_bitblt_ruled_8 (x0 : Int) (x1 : Int) : Int :=
  (bOr .u32 x0 x1)
noncomputable def Cf68_bitblt_ruled_8 : Ctx := mkC Try.prog tys zeros eqs [] []
/-- palaverbitblt.ruled$8 -/
noncomputable def f68_bitblt_ruled_8 (x0 : Int) (x1 : Int) : M Int :=
  ret (bOr .u32 x0 x1)
noncomputable def Af68_bitblt_ruled_8 : Ann := (.two .nil (.two .nil .nil))
theorem Cf68_bitblt_ruled_8_ok : Cf68_bitblt_ruled_8.Ok := mkC_ok mixed tysOk zerosOk eqsOk trivial trivial
theorem Ef68_bitblt_ruled_8 (x : (Int × Int)) : evF Cf68_bitblt_ruled_8 Try.f68 8 (.pair (.int .u32) (.int .u32)) (.int .u32) Af68_bitblt_ruled_8 x = f68_bitblt_ruled_8 x.1 x.2 := by kernel_rfl
theorem Sf68_bitblt_ruled_8 : SoundF Try.prog 68 ⟨(.pair (.int .u32) (.int .u32)), (.int .u32), fun x => f68_bitblt_ruled_8 x.1 x.2⟩ :=
  soundF_of Cf68_bitblt_ruled_8_ok Try.func68 (by kernel_rfl) (by kernel_rfl) Ef68_bitblt_ruled_8
theorem Hf68_bitblt_ruled_8 (x0 : Int) (x1 : Int) : f68_bitblt_ruled_8 x0 x1 = ret (Gf68_bitblt_ruled_8 x0 x1) := by
  simp only [f68_bitblt_ruled_8, Gf68_bitblt_ruled_8, bnd_ret, cnd_ret, bnd_cnd]
theorem Pf68_bitblt_ruled_8 : SoundP Try.prog 68 ⟨(.pair (.int .u32) (.int .u32)), (.int .u32), fun x => Gf68_bitblt_ruled_8 x.1 x.2⟩ := soundP_of Sf68_bitblt_ruled_8 fun x => Hf68_bitblt_ruled_8 x.1 x.2
noncomputable def Gf69_bitblt_ruled_9 (x0 : Int) (x1 : Int) : Int :=
  (bXor .u32 (4294967295) (bOr .u32 x0 x1))
noncomputable def Cf69_bitblt_ruled_9 : Ctx := mkC Try.prog tys zeros eqs [] []
/-- palaverbitblt.ruled$9 -/
noncomputable def f69_bitblt_ruled_9 (x0 : Int) (x1 : Int) : M Int :=
  ret (bXor .u32 (4294967295) (bOr .u32 x0 x1))
noncomputable def Af69_bitblt_ruled_9 : Ann := (.two .nil (.two .nil .nil))
theorem Cf69_bitblt_ruled_9_ok : Cf69_bitblt_ruled_9.Ok := mkC_ok mixed tysOk zerosOk eqsOk trivial trivial
theorem Ef69_bitblt_ruled_9 (x : (Int × Int)) : evF Cf69_bitblt_ruled_9 Try.f69 9 (.pair (.int .u32) (.int .u32)) (.int .u32) Af69_bitblt_ruled_9 x = f69_bitblt_ruled_9 x.1 x.2 := by kernel_rfl
theorem Sf69_bitblt_ruled_9 : SoundF Try.prog 69 ⟨(.pair (.int .u32) (.int .u32)), (.int .u32), fun x => f69_bitblt_ruled_9 x.1 x.2⟩ :=
  soundF_of Cf69_bitblt_ruled_9_ok Try.func69 (by kernel_rfl) (by kernel_rfl) Ef69_bitblt_ruled_9
theorem Hf69_bitblt_ruled_9 (x0 : Int) (x1 : Int) : f69_bitblt_ruled_9 x0 x1 = ret (Gf69_bitblt_ruled_9 x0 x1) := by
  simp only [f69_bitblt_ruled_9, Gf69_bitblt_ruled_9, bnd_ret, cnd_ret, bnd_cnd]
theorem Pf69_bitblt_ruled_9 : SoundP Try.prog 69 ⟨(.pair (.int .u32) (.int .u32)), (.int .u32), fun x => Gf69_bitblt_ruled_9 x.1 x.2⟩ := soundP_of Sf69_bitblt_ruled_9 fun x => Hf69_bitblt_ruled_9 x.1 x.2
noncomputable def Gf70_bitblt_ruled_10 (x0 : Int) (x1 : Int) : Int :=
  (bXor .u32 (4294967295) (bXor .u32 x0 x1))
noncomputable def Cf70_bitblt_ruled_10 : Ctx := mkC Try.prog tys zeros eqs [] []
/-- palaverbitblt.ruled$10 -/
noncomputable def f70_bitblt_ruled_10 (x0 : Int) (x1 : Int) : M Int :=
  ret (bXor .u32 (4294967295) (bXor .u32 x0 x1))
noncomputable def Af70_bitblt_ruled_10 : Ann := (.two .nil (.two .nil .nil))
theorem Cf70_bitblt_ruled_10_ok : Cf70_bitblt_ruled_10.Ok := mkC_ok mixed tysOk zerosOk eqsOk trivial trivial
theorem Ef70_bitblt_ruled_10 (x : (Int × Int)) : evF Cf70_bitblt_ruled_10 Try.f70 9 (.pair (.int .u32) (.int .u32)) (.int .u32) Af70_bitblt_ruled_10 x = f70_bitblt_ruled_10 x.1 x.2 := by kernel_rfl
theorem Sf70_bitblt_ruled_10 : SoundF Try.prog 70 ⟨(.pair (.int .u32) (.int .u32)), (.int .u32), fun x => f70_bitblt_ruled_10 x.1 x.2⟩ :=
  soundF_of Cf70_bitblt_ruled_10_ok Try.func70 (by kernel_rfl) (by kernel_rfl) Ef70_bitblt_ruled_10
theorem Hf70_bitblt_ruled_10 (x0 : Int) (x1 : Int) : f70_bitblt_ruled_10 x0 x1 = ret (Gf70_bitblt_ruled_10 x0 x1) := by
  simp only [f70_bitblt_ruled_10, Gf70_bitblt_ruled_10, bnd_ret, cnd_ret, bnd_cnd]
theorem Pf70_bitblt_ruled_10 : SoundP Try.prog 70 ⟨(.pair (.int .u32) (.int .u32)), (.int .u32), fun x => Gf70_bitblt_ruled_10 x.1 x.2⟩ := soundP_of Sf70_bitblt_ruled_10 fun x => Hf70_bitblt_ruled_10 x.1 x.2
noncomputable def Gf71_bitblt_ruled_11 (x0 : Int) (x1 : Int) : Int :=
  (bXor .u32 (4294967295) x1)
noncomputable def Cf71_bitblt_ruled_11 : Ctx := mkC Try.prog tys zeros eqs [] []
/-- palaverbitblt.ruled$11 -/
noncomputable def f71_bitblt_ruled_11 (x0 : Int) (x1 : Int) : M Int :=
  ret (bXor .u32 (4294967295) x1)
noncomputable def Af71_bitblt_ruled_11 : Ann := (.two .nil (.two .nil .nil))
theorem Cf71_bitblt_ruled_11_ok : Cf71_bitblt_ruled_11.Ok := mkC_ok mixed tysOk zerosOk eqsOk trivial trivial
theorem Ef71_bitblt_ruled_11 (x : (Int × Int)) : evF Cf71_bitblt_ruled_11 Try.f71 7 (.pair (.int .u32) (.int .u32)) (.int .u32) Af71_bitblt_ruled_11 x = f71_bitblt_ruled_11 x.1 x.2 := by kernel_rfl
theorem Sf71_bitblt_ruled_11 : SoundF Try.prog 71 ⟨(.pair (.int .u32) (.int .u32)), (.int .u32), fun x => f71_bitblt_ruled_11 x.1 x.2⟩ :=
  soundF_of Cf71_bitblt_ruled_11_ok Try.func71 (by kernel_rfl) (by kernel_rfl) Ef71_bitblt_ruled_11
theorem Hf71_bitblt_ruled_11 (x0 : Int) (x1 : Int) : f71_bitblt_ruled_11 x0 x1 = ret (Gf71_bitblt_ruled_11 x0 x1) := by
  simp only [f71_bitblt_ruled_11, Gf71_bitblt_ruled_11, bnd_ret, cnd_ret, bnd_cnd]
theorem Pf71_bitblt_ruled_11 : SoundP Try.prog 71 ⟨(.pair (.int .u32) (.int .u32)), (.int .u32), fun x => Gf71_bitblt_ruled_11 x.1 x.2⟩ := soundP_of Sf71_bitblt_ruled_11 fun x => Hf71_bitblt_ruled_11 x.1 x.2
noncomputable def Gf72_bitblt_ruled_12 (x0 : Int) (x1 : Int) : Int :=
  (bOr .u32 x0 (bXor .u32 (4294967295) x1))
noncomputable def Cf72_bitblt_ruled_12 : Ctx := mkC Try.prog tys zeros eqs [] []
/-- palaverbitblt.ruled$12 -/
noncomputable def f72_bitblt_ruled_12 (x0 : Int) (x1 : Int) : M Int :=
  ret (bOr .u32 x0 (bXor .u32 (4294967295) x1))
noncomputable def Af72_bitblt_ruled_12 : Ann := (.two .nil (.two .nil .nil))
theorem Cf72_bitblt_ruled_12_ok : Cf72_bitblt_ruled_12.Ok := mkC_ok mixed tysOk zerosOk eqsOk trivial trivial
theorem Ef72_bitblt_ruled_12 (x : (Int × Int)) : evF Cf72_bitblt_ruled_12 Try.f72 9 (.pair (.int .u32) (.int .u32)) (.int .u32) Af72_bitblt_ruled_12 x = f72_bitblt_ruled_12 x.1 x.2 := by kernel_rfl
theorem Sf72_bitblt_ruled_12 : SoundF Try.prog 72 ⟨(.pair (.int .u32) (.int .u32)), (.int .u32), fun x => f72_bitblt_ruled_12 x.1 x.2⟩ :=
  soundF_of Cf72_bitblt_ruled_12_ok Try.func72 (by kernel_rfl) (by kernel_rfl) Ef72_bitblt_ruled_12
theorem Hf72_bitblt_ruled_12 (x0 : Int) (x1 : Int) : f72_bitblt_ruled_12 x0 x1 = ret (Gf72_bitblt_ruled_12 x0 x1) := by
  simp only [f72_bitblt_ruled_12, Gf72_bitblt_ruled_12, bnd_ret, cnd_ret, bnd_cnd]
theorem Pf72_bitblt_ruled_12 : SoundP Try.prog 72 ⟨(.pair (.int .u32) (.int .u32)), (.int .u32), fun x => Gf72_bitblt_ruled_12 x.1 x.2⟩ := soundP_of Sf72_bitblt_ruled_12 fun x => Hf72_bitblt_ruled_12 x.1 x.2
noncomputable def Gf73_bitblt_ruled_13 (x0 : Int) (x1 : Int) : Int :=
  (bXor .u32 (4294967295) x0)
noncomputable def Cf73_bitblt_ruled_13 : Ctx := mkC Try.prog tys zeros eqs [] []
/-- palaverbitblt.ruled$13 -/
noncomputable def f73_bitblt_ruled_13 (x0 : Int) (x1 : Int) : M Int :=
  ret (bXor .u32 (4294967295) x0)
noncomputable def Af73_bitblt_ruled_13 : Ann := (.two .nil (.two .nil .nil))
theorem Cf73_bitblt_ruled_13_ok : Cf73_bitblt_ruled_13.Ok := mkC_ok mixed tysOk zerosOk eqsOk trivial trivial
theorem Ef73_bitblt_ruled_13 (x : (Int × Int)) : evF Cf73_bitblt_ruled_13 Try.f73 7 (.pair (.int .u32) (.int .u32)) (.int .u32) Af73_bitblt_ruled_13 x = f73_bitblt_ruled_13 x.1 x.2 := by kernel_rfl
theorem Sf73_bitblt_ruled_13 : SoundF Try.prog 73 ⟨(.pair (.int .u32) (.int .u32)), (.int .u32), fun x => f73_bitblt_ruled_13 x.1 x.2⟩ :=
  soundF_of Cf73_bitblt_ruled_13_ok Try.func73 (by kernel_rfl) (by kernel_rfl) Ef73_bitblt_ruled_13
theorem Hf73_bitblt_ruled_13 (x0 : Int) (x1 : Int) : f73_bitblt_ruled_13 x0 x1 = ret (Gf73_bitblt_ruled_13 x0 x1) := by
  simp only [f73_bitblt_ruled_13, Gf73_bitblt_ruled_13, bnd_ret, cnd_ret, bnd_cnd]
theorem Pf73_bitblt_ruled_13 : SoundP Try.prog 73 ⟨(.pair (.int .u32) (.int .u32)), (.int .u32), fun x => Gf73_bitblt_ruled_13 x.1 x.2⟩ := soundP_of Sf73_bitblt_ruled_13 fun x => Hf73_bitblt_ruled_13 x.1 x.2
noncomputable def Gf74_bitblt_ruled_14 (x0 : Int) (x1 : Int) : Int :=
  (bOr .u32 (bXor .u32 (4294967295) x0) x1)
noncomputable def Cf74_bitblt_ruled_14 : Ctx := mkC Try.prog tys zeros eqs [] []
/-- palaverbitblt.ruled$14 -/
noncomputable def f74_bitblt_ruled_14 (x0 : Int) (x1 : Int) : M Int :=
  ret (bOr .u32 (bXor .u32 (4294967295) x0) x1)
noncomputable def Af74_bitblt_ruled_14 : Ann := (.two .nil (.two .nil .nil))
theorem Cf74_bitblt_ruled_14_ok : Cf74_bitblt_ruled_14.Ok := mkC_ok mixed tysOk zerosOk eqsOk trivial trivial
theorem Ef74_bitblt_ruled_14 (x : (Int × Int)) : evF Cf74_bitblt_ruled_14 Try.f74 9 (.pair (.int .u32) (.int .u32)) (.int .u32) Af74_bitblt_ruled_14 x = f74_bitblt_ruled_14 x.1 x.2 := by kernel_rfl
theorem Sf74_bitblt_ruled_14 : SoundF Try.prog 74 ⟨(.pair (.int .u32) (.int .u32)), (.int .u32), fun x => f74_bitblt_ruled_14 x.1 x.2⟩ :=
  soundF_of Cf74_bitblt_ruled_14_ok Try.func74 (by kernel_rfl) (by kernel_rfl) Ef74_bitblt_ruled_14
theorem Hf74_bitblt_ruled_14 (x0 : Int) (x1 : Int) : f74_bitblt_ruled_14 x0 x1 = ret (Gf74_bitblt_ruled_14 x0 x1) := by
  simp only [f74_bitblt_ruled_14, Gf74_bitblt_ruled_14, bnd_ret, cnd_ret, bnd_cnd]
theorem Pf74_bitblt_ruled_14 : SoundP Try.prog 74 ⟨(.pair (.int .u32) (.int .u32)), (.int .u32), fun x => Gf74_bitblt_ruled_14 x.1 x.2⟩ := soundP_of Sf74_bitblt_ruled_14 fun x => Hf74_bitblt_ruled_14 x.1 x.2
noncomputable def Gf75_bitblt_ruled_15 (x0 : Int) (x1 : Int) : Int :=
  (bXor .u32 (4294967295) (bAnd .u32 x0 x1))
noncomputable def Cf75_bitblt_ruled_15 : Ctx := mkC Try.prog tys zeros eqs [] []
/-- palaverbitblt.ruled$15 -/
noncomputable def f75_bitblt_ruled_15 (x0 : Int) (x1 : Int) : M Int :=
  ret (bXor .u32 (4294967295) (bAnd .u32 x0 x1))
noncomputable def Af75_bitblt_ruled_15 : Ann := (.two .nil (.two .nil .nil))
theorem Cf75_bitblt_ruled_15_ok : Cf75_bitblt_ruled_15.Ok := mkC_ok mixed tysOk zerosOk eqsOk trivial trivial
theorem Ef75_bitblt_ruled_15 (x : (Int × Int)) : evF Cf75_bitblt_ruled_15 Try.f75 9 (.pair (.int .u32) (.int .u32)) (.int .u32) Af75_bitblt_ruled_15 x = f75_bitblt_ruled_15 x.1 x.2 := by kernel_rfl
theorem Sf75_bitblt_ruled_15 : SoundF Try.prog 75 ⟨(.pair (.int .u32) (.int .u32)), (.int .u32), fun x => f75_bitblt_ruled_15 x.1 x.2⟩ :=
  soundF_of Cf75_bitblt_ruled_15_ok Try.func75 (by kernel_rfl) (by kernel_rfl) Ef75_bitblt_ruled_15
theorem Hf75_bitblt_ruled_15 (x0 : Int) (x1 : Int) : f75_bitblt_ruled_15 x0 x1 = ret (Gf75_bitblt_ruled_15 x0 x1) := by
  simp only [f75_bitblt_ruled_15, Gf75_bitblt_ruled_15, bnd_ret, cnd_ret, bnd_cnd]
theorem Pf75_bitblt_ruled_15 : SoundP Try.prog 75 ⟨(.pair (.int .u32) (.int .u32)), (.int .u32), fun x => Gf75_bitblt_ruled_15 x.1 x.2⟩ := soundP_of Sf75_bitblt_ruled_15 fun x => Hf75_bitblt_ruled_15 x.1 x.2
noncomputable def Gf76_bitblt_ruled_16 (x0 : Int) (x1 : Int) : Int :=
  (4294967295 : Int)
noncomputable def Cf76_bitblt_ruled_16 : Ctx := mkC Try.prog tys zeros eqs [] []
/-- palaverbitblt.ruled$16 -/
noncomputable def f76_bitblt_ruled_16 (x0 : Int) (x1 : Int) : M Int :=
  ret (4294967295 : Int)
noncomputable def Af76_bitblt_ruled_16 : Ann := (.two .nil (.two .nil .nil))
theorem Cf76_bitblt_ruled_16_ok : Cf76_bitblt_ruled_16.Ok := mkC_ok mixed tysOk zerosOk eqsOk trivial trivial
theorem Ef76_bitblt_ruled_16 (x : (Int × Int)) : evF Cf76_bitblt_ruled_16 Try.f76 5 (.pair (.int .u32) (.int .u32)) (.int .u32) Af76_bitblt_ruled_16 x = f76_bitblt_ruled_16 x.1 x.2 := by kernel_rfl
theorem Sf76_bitblt_ruled_16 : SoundF Try.prog 76 ⟨(.pair (.int .u32) (.int .u32)), (.int .u32), fun x => f76_bitblt_ruled_16 x.1 x.2⟩ :=
  soundF_of Cf76_bitblt_ruled_16_ok Try.func76 (by kernel_rfl) (by kernel_rfl) Ef76_bitblt_ruled_16
theorem Hf76_bitblt_ruled_16 (x0 : Int) (x1 : Int) : f76_bitblt_ruled_16 x0 x1 = ret (Gf76_bitblt_ruled_16 x0 x1) := by
  simp only [f76_bitblt_ruled_16, Gf76_bitblt_ruled_16, bnd_ret, cnd_ret, bnd_cnd]
theorem Pf76_bitblt_ruled_16 : SoundP Try.prog 76 ⟨(.pair (.int .u32) (.int .u32)), (.int .u32), fun x => Gf76_bitblt_ruled_16 x.1 x.2⟩ := soundP_of Sf76_bitblt_ruled_16 fun x => Hf76_bitblt_ruled_16 x.1 x.2
noncomputable def Cf44_bitblt_ruled : Ctx := mkC Try.prog tys zeros eqs [] []
/-- palaverbitblt.ruled -/
noncomputable def f44_bitblt_ruled (x0 : Int) : M Value :=
  bnd (ixG .val [(Value.func (.func 61) #[] #[]), (Value.func (.func 62) #[] #[]), (Value.func (.func 63) #[] #[]), (Value.func (.func 64) #[] #[]), (Value.func (.func 65) #[] #[]), (Value.func (.func 66) #[] #[]), (Value.func (.func 67) #[] #[]), (Value.func (.func 68) #[] #[]), (Value.func (.func 69) #[] #[]), (Value.func (.func 70) #[] #[]), (Value.func (.func 71) #[] #[]), (Value.func (.func 72) #[] #[]), (Value.func (.func 73) #[] #[]), (Value.func (.func 74) #[] #[]), (Value.func (.func 75) #[] #[]), (Value.func (.func 76) #[] #[])] 16 x0) fun (v1 : Value) =>
  ret v1
noncomputable def Af44_bitblt_ruled : Ann := (.two .nil (.two .nil .nil))
theorem Cf44_bitblt_ruled_ok : Cf44_bitblt_ruled.Ok := mkC_ok mixed tysOk zerosOk eqsOk trivial trivial
theorem Ef44_bitblt_ruled (x : Int) : evF Cf44_bitblt_ruled Try.f44 6 (.int .i64) .val Af44_bitblt_ruled x = f44_bitblt_ruled x := by kernel_rfl
theorem Sf44_bitblt_ruled : SoundF Try.prog 44 ⟨(.int .i64), .val, fun x => f44_bitblt_ruled x⟩ :=
  soundF_of Cf44_bitblt_ruled_ok Try.func44 (by kernel_rfl) (by kernel_rfl) Ef44_bitblt_ruled
noncomputable def Cf20_bitblt_Rule : Ctx := mkC Try.prog tys zeros eqs [(44, ⟨(.int .i64), .val, fun x => f44_bitblt_ruled x⟩)] [(36, ⟨(.pair (.int .i64) (.pair (.int .i64) (.int .i64))), .bool, fun x => Gf36_bitblt_within x.1 x.2.1 x.2.2⟩), (61, ⟨(.pair (.int .u32) (.int .u32)), (.int .u32), fun x => Gf61_bitblt_ruled_1 x.1 x.2⟩), (62, ⟨(.pair (.int .u32) (.int .u32)), (.int .u32), fun x => Gf62_bitblt_ruled_2 x.1 x.2⟩), (63, ⟨(.pair (.int .u32) (.int .u32)), (.int .u32), fun x => Gf63_bitblt_ruled_3 x.1 x.2⟩), (64, ⟨(.pair (.int .u32) (.int .u32)), (.int .u32), fun x => Gf64_bitblt_ruled_4 x.1 x.2⟩), (65, ⟨(.pair (.int .u32) (.int .u32)), (.int .u32), fun x => Gf65_bitblt_ruled_5 x.1 x.2⟩), (66, ⟨(.pair (.int .u32) (.int .u32)), (.int .u32), fun x => Gf66_bitblt_ruled_6 x.1 x.2⟩), (67, ⟨(.pair (.int .u32) (.int .u32)), (.int .u32), fun x => Gf67_bitblt_ruled_7 x.1 x.2⟩), (68, ⟨(.pair (.int .u32) (.int .u32)), (.int .u32), fun x => Gf68_bitblt_ruled_8 x.1 x.2⟩), (69, ⟨(.pair (.int .u32) (.int .u32)), (.int .u32), fun x => Gf69_bitblt_ruled_9 x.1 x.2⟩), (70, ⟨(.pair (.int .u32) (.int .u32)), (.int .u32), fun x => Gf70_bitblt_ruled_10 x.1 x.2⟩), (71, ⟨(.pair (.int .u32) (.int .u32)), (.int .u32), fun x => Gf71_bitblt_ruled_11 x.1 x.2⟩), (72, ⟨(.pair (.int .u32) (.int .u32)), (.int .u32), fun x => Gf72_bitblt_ruled_12 x.1 x.2⟩), (73, ⟨(.pair (.int .u32) (.int .u32)), (.int .u32), fun x => Gf73_bitblt_ruled_13 x.1 x.2⟩), (74, ⟨(.pair (.int .u32) (.int .u32)), (.int .u32), fun x => Gf74_bitblt_ruled_14 x.1 x.2⟩), (75, ⟨(.pair (.int .u32) (.int .u32)), (.int .u32), fun x => Gf75_bitblt_ruled_15 x.1 x.2⟩), (76, ⟨(.pair (.int .u32) (.int .u32)), (.int .u32), fun x => Gf76_bitblt_ruled_16 x.1 x.2⟩)]
/-- palaverbitblt.Rule -/
noncomputable def f20_bitblt_Rule (x0 : Int) (x1 : Int) (x2 : Int) : M (Int × Int) :=
  cnd (!(Gf36_bitblt_within x0 (0 : Int) (15 : Int))) (
  ret ((0 : Int), (111 : Int))) (
  bnd (f44_bitblt_ruled x0) fun (r1 : Value) =>
  bnd (callV Cf20_bitblt_Rule (.int .u32) r1 [⟨(.int .u32), x1⟩, ⟨(.int .u32), x2⟩]) fun (r2 : Int) =>
  ret (r2, (0 : Int)))
noncomputable def Af20_bitblt_Rule : Ann := (.two .nil (.two (.two .nil (.two (.two .nil .nil) .nil)) (.two .nil .nil)))
theorem Cf20_bitblt_Rule_ok : Cf20_bitblt_Rule.Ok := mkC_ok mixed tysOk zerosOk eqsOk ⟨Sf44_bitblt_ruled, trivial⟩ ⟨Pf36_bitblt_within, Pf61_bitblt_ruled_1, Pf62_bitblt_ruled_2, Pf63_bitblt_ruled_3, Pf64_bitblt_ruled_4, Pf65_bitblt_ruled_5, Pf66_bitblt_ruled_6, Pf67_bitblt_ruled_7, Pf68_bitblt_ruled_8, Pf69_bitblt_ruled_9, Pf70_bitblt_ruled_10, Pf71_bitblt_ruled_11, Pf72_bitblt_ruled_12, Pf73_bitblt_ruled_13, Pf74_bitblt_ruled_14, Pf75_bitblt_ruled_15, Pf76_bitblt_ruled_16, trivial⟩
theorem Ef20_bitblt_Rule (x : (Int × (Int × Int))) : evF Cf20_bitblt_Rule Try.f20 16 (.pair (.int .i64) (.pair (.int .u32) (.int .u32))) (.tup (.pair (.int .u32) (.int .i64))) Af20_bitblt_Rule x = f20_bitblt_Rule x.1 x.2.1 x.2.2 := by kernel_rfl
theorem Sf20_bitblt_Rule : SoundF Try.prog 20 ⟨(.pair (.int .i64) (.pair (.int .u32) (.int .u32))), (.tup (.pair (.int .u32) (.int .i64))), fun x => f20_bitblt_Rule x.1 x.2.1 x.2.2⟩ :=
  soundF_of Cf20_bitblt_Rule_ok Try.func20 (by kernel_rfl) (by kernel_rfl) Ef20_bitblt_Rule
noncomputable def Cf53_bitblt_bounded : Ctx := mkC Try.prog tys zeros eqs [] [(36, ⟨(.pair (.int .i64) (.pair (.int .i64) (.int .i64))), .bool, fun x => Gf36_bitblt_within x.1 x.2.1 x.2.2⟩)]
/-- palaverbitblt.bounded -/
noncomputable def f53_bitblt_bounded (x0 : (Int × (Int × (Int × (Int × (Int × (Int × (Int × (Int × (Int × (Int × (Int × Sl)))))))))))) : M Int :=
  bnd (newC 52 [.int .i64 x0.1, .int .i64 x0.2.1, .int .i64 x0.2.2.1, .int .i64 x0.2.2.2.1, .int .i64 x0.2.2.2.2.1, .int .i64 x0.2.2.2.2.2.1, .int .i64 x0.2.2.2.2.2.2.1, .int .i64 x0.2.2.2.2.2.2.2.1, .int .i64 x0.2.2.2.2.2.2.2.2.1, .int .i64 x0.2.2.2.2.2.2.2.2.2.1, .int .i64 x0.2.2.2.2.2.2.2.2.2.2.1, .slice x0.2.2.2.2.2.2.2.2.2.2.2.a x0.2.2.2.2.2.2.2.2.2.2.2.len x0.2.2.2.2.2.2.2.2.2.2.2.cap]) fun (p1 : Addr) =>
  bnd (ld (.int .i64) (Addr.add p1 0)) fun (v2 : Int) =>
  cnd (!(Gf36_bitblt_within v2 (0 : Int) (15 : Int))) (
  ret (111 : Int)) (
  bnd (ld (.int .i64) (Addr.add p1 1)) fun (v3 : Int) =>
  bnd (ld (.int .i64) (Addr.add p1 2)) fun (v4 : Int) =>
  bnd (ld (.int .i64) (Addr.add p1 3)) fun (v5 : Int) =>
  bnd (ld (.int .i64) (Addr.add p1 4)) fun (v6 : Int) =>
  bnd (ld (.int .i64) (Addr.add p1 5)) fun (v7 : Int) =>
  bnd (ld (.int .i64) (Addr.add p1 6)) fun (v8 : Int) =>
  bnd (ld (.int .i64) (Addr.add p1 7)) fun (v9 : Int) =>
  bnd (ld (.int .i64) (Addr.add p1 8)) fun (v10 : Int) =>
  bnd (ld (.int .i64) (Addr.add p1 9)) fun (v11 : Int) =>
  bnd (ld (.int .i64) (Addr.add p1 10)) fun (v12 : Int) =>
  loopM (fun (s13 : Int) =>
  cnd (decide (s13 < (10 : Int))) (
  bnd (ixG (.int .i64) [.int .i64 v3, .int .i64 v4, .int .i64 v5, .int .i64 v6, .int .i64 v7, .int .i64 v8, .int .i64 v9, .int .i64 v10, .int .i64 v11, .int .i64 v12] 10 s13) fun (v14 : Int) =>
  cnd (!(Gf36_bitblt_within v14 (-1000000 : Int) (1000000 : Int))) (
  ret (Sum.inr (1 : Int))) (
  ret (Sum.inl (IntKind.wrap .i64 (s13 + (1 : Int)))))) (
  bnd (
  bnd (ld .sl (Addr.add p1 11)) fun (v15 : Sl) =>
  cnd (decide ((v15.len : Int) > (4096 : Int))) (
  ret (1 : Int)) (
  ret (0 : Int))) fun r16 =>
  ret (Sum.inr r16))) (0 : Int))
noncomputable def Af53_bitblt_bounded : Ann := (.two .nil (.two (.two .nil (.two (.two .nil .nil) .nil)) (.two (.two .nil (.one (.loop [(30, (.int .i64))] [2, 4, 31, 32, 33, 34, 35, 36] (.two .nil (.two (.two .nil .nil) (.two (.one (.two .nil (.two .nil (.two (.two .nil .nil) .nil)))) .nil)))))) (.two (.two .nil (.two (.two .nil .nil) .nil)) (.two .nil .nil)))))
theorem Cf53_bitblt_bounded_ok : Cf53_bitblt_bounded.Ok := mkC_ok mixed tysOk zerosOk eqsOk trivial ⟨Pf36_bitblt_within, trivial⟩
theorem Ef53_bitblt_bounded (x : (Int × (Int × (Int × (Int × (Int × (Int × (Int × (Int × (Int × (Int × (Int × Sl)))))))))))) : evF Cf53_bitblt_bounded Try.f53 41 (.agg (.pair (.int .i64) (.pair (.int .i64) (.pair (.int .i64) (.pair (.int .i64) (.pair (.int .i64) (.pair (.int .i64) (.pair (.int .i64) (.pair (.int .i64) (.pair (.int .i64) (.pair (.int .i64) (.pair (.int .i64) .sl)))))))))))) (.int .i64) Af53_bitblt_bounded x = f53_bitblt_bounded x := by kernel_rfl
theorem Sf53_bitblt_bounded : SoundF Try.prog 53 ⟨(.agg (.pair (.int .i64) (.pair (.int .i64) (.pair (.int .i64) (.pair (.int .i64) (.pair (.int .i64) (.pair (.int .i64) (.pair (.int .i64) (.pair (.int .i64) (.pair (.int .i64) (.pair (.int .i64) (.pair (.int .i64) .sl)))))))))))), (.int .i64), fun x => f53_bitblt_bounded x⟩ :=
  soundF_of Cf53_bitblt_bounded_ok Try.func53 (by kernel_rfl) (by kernel_rfl) Ef53_bitblt_bounded
noncomputable def Gf54_bitblt_span (x0 : Int) (x1 : Int) (x2 : Int) (x3 : Int) (x4 : Int) (x5 : Int) (x6 : Int) : (Int × (Int × Int)) :=
  ((maxI (maxI (maxI x0 x3) (0 : Int)) (IntKind.wrap .i64 (x0 - x2))), (IntKind.wrap .i64 ((IntKind.wrap .i64 (x2 + (maxI (maxI (maxI x0 x3) (0 : Int)) (IntKind.wrap .i64 (x0 - x2))))) - x0)), (IntKind.wrap .i64 ((minI (minI (minI (IntKind.wrap .i64 (x0 + x1)) (IntKind.wrap .i64 (x3 + x4))) x5) (IntKind.wrap .i64 ((IntKind.wrap .i64 (x0 - x2)) + x6))) - (maxI (maxI (maxI x0 x3) (0 : Int)) (IntKind.wrap .i64 (x0 - x2))))))
noncomputable def Cf54_bitblt_span : Ctx := mkC Try.prog tys zeros eqs [] []
/-- palaverbitblt.span -/
noncomputable def f54_bitblt_span (x0 : Int) (x1 : Int) (x2 : Int) (x3 : Int) (x4 : Int) (x5 : Int) (x6 : Int) : M (Int × (Int × Int)) :=
  ret ((maxI (maxI (maxI x0 x3) (0 : Int)) (IntKind.wrap .i64 (x0 - x2))), (IntKind.wrap .i64 ((IntKind.wrap .i64 (x2 + (maxI (maxI (maxI x0 x3) (0 : Int)) (IntKind.wrap .i64 (x0 - x2))))) - x0)), (IntKind.wrap .i64 ((minI (minI (minI (IntKind.wrap .i64 (x0 + x1)) (IntKind.wrap .i64 (x3 + x4))) x5) (IntKind.wrap .i64 ((IntKind.wrap .i64 (x0 - x2)) + x6))) - (maxI (maxI (maxI x0 x3) (0 : Int)) (IntKind.wrap .i64 (x0 - x2))))))
noncomputable def Af54_bitblt_span : Ann := (.two .nil (.two .nil (.two .nil (.two .nil .nil))))
theorem Cf54_bitblt_span_ok : Cf54_bitblt_span.Ok := mkC_ok mixed tysOk zerosOk eqsOk trivial trivial
theorem Ef54_bitblt_span (x : (Int × (Int × (Int × (Int × (Int × (Int × Int))))))) : evF Cf54_bitblt_span Try.f54 47 (.pair (.int .i64) (.pair (.int .i64) (.pair (.int .i64) (.pair (.int .i64) (.pair (.int .i64) (.pair (.int .i64) (.int .i64))))))) (.tup (.pair (.int .i64) (.pair (.int .i64) (.int .i64)))) Af54_bitblt_span x = f54_bitblt_span x.1 x.2.1 x.2.2.1 x.2.2.2.1 x.2.2.2.2.1 x.2.2.2.2.2.1 x.2.2.2.2.2.2 := by kernel_rfl
theorem Sf54_bitblt_span : SoundF Try.prog 54 ⟨(.pair (.int .i64) (.pair (.int .i64) (.pair (.int .i64) (.pair (.int .i64) (.pair (.int .i64) (.pair (.int .i64) (.int .i64))))))), (.tup (.pair (.int .i64) (.pair (.int .i64) (.int .i64)))), fun x => f54_bitblt_span x.1 x.2.1 x.2.2.1 x.2.2.2.1 x.2.2.2.2.1 x.2.2.2.2.2.1 x.2.2.2.2.2.2⟩ :=
  soundF_of Cf54_bitblt_span_ok Try.func54 (by kernel_rfl) (by kernel_rfl) Ef54_bitblt_span
theorem Hf54_bitblt_span (x0 : Int) (x1 : Int) (x2 : Int) (x3 : Int) (x4 : Int) (x5 : Int) (x6 : Int) : f54_bitblt_span x0 x1 x2 x3 x4 x5 x6 = ret (Gf54_bitblt_span x0 x1 x2 x3 x4 x5 x6) := by
  simp only [f54_bitblt_span, Gf54_bitblt_span, bnd_ret, cnd_ret, bnd_cnd]
theorem Pf54_bitblt_span : SoundP Try.prog 54 ⟨(.pair (.int .i64) (.pair (.int .i64) (.pair (.int .i64) (.pair (.int .i64) (.pair (.int .i64) (.pair (.int .i64) (.int .i64))))))), (.tup (.pair (.int .i64) (.pair (.int .i64) (.int .i64)))), fun x => Gf54_bitblt_span x.1 x.2.1 x.2.2.1 x.2.2.2.1 x.2.2.2.2.1 x.2.2.2.2.2.1 x.2.2.2.2.2.2⟩ := soundP_of Sf54_bitblt_span fun x => Hf54_bitblt_span x.1 x.2.1 x.2.2.1 x.2.2.2.1 x.2.2.2.2.1 x.2.2.2.2.2.1 x.2.2.2.2.2.2
noncomputable def Cf25_bitblt_Clip : Ctx := mkC Try.prog tys zeros eqs [(14, ⟨(.agg (.pair (.int .i64) (.pair (.int .i64) (.pair (.int .i64) .sl)))), (.int .i64), fun x => f14_bitblt_Check x⟩), (40, ⟨.sl, .sl, fun x => f40_slices_Cloneuint32_uint32 x⟩), (53, ⟨(.agg (.pair (.int .i64) (.pair (.int .i64) (.pair (.int .i64) (.pair (.int .i64) (.pair (.int .i64) (.pair (.int .i64) (.pair (.int .i64) (.pair (.int .i64) (.pair (.int .i64) (.pair (.int .i64) (.pair (.int .i64) .sl)))))))))))), (.int .i64), fun x => f53_bitblt_bounded x⟩)] [(54, ⟨(.pair (.int .i64) (.pair (.int .i64) (.pair (.int .i64) (.pair (.int .i64) (.pair (.int .i64) (.pair (.int .i64) (.int .i64))))))), (.tup (.pair (.int .i64) (.pair (.int .i64) (.int .i64)))), fun x => Gf54_bitblt_span x.1 x.2.1 x.2.2.1 x.2.2.2.1 x.2.2.2.2.1 x.2.2.2.2.2.1 x.2.2.2.2.2.2⟩)]
/-- palaverbitblt.Clip -/
noncomputable def f25_bitblt_Clip (x0 : (Int × (Int × (Int × Sl)))) (x1 : (Int × (Int × (Int × Sl)))) (x2 : (Int × (Int × (Int × (Int × (Int × (Int × (Int × (Int × (Int × (Int × (Int × Sl)))))))))))) : M ((Int × (Int × (Int × (Int × (Int × (Int × (Int × (Int × (Int × (Int × (Int × Sl))))))))))) × Int) :=
  bnd (newC 24 [.int .i64 x0.1, .int .i64 x0.2.1, .int .i64 x0.2.2.1, .slice x0.2.2.2.a x0.2.2.2.len x0.2.2.2.cap]) fun (p1 : Addr) =>
  bnd (newC 24 [.int .i64 x1.1, .int .i64 x1.2.1, .int .i64 x1.2.2.1, .slice x1.2.2.2.a x1.2.2.2.len x1.2.2.2.cap]) fun (p2 : Addr) =>
  bnd (newC 52 [.int .i64 x2.1, .int .i64 x2.2.1, .int .i64 x2.2.2.1, .int .i64 x2.2.2.2.1, .int .i64 x2.2.2.2.2.1, .int .i64 x2.2.2.2.2.2.1, .int .i64 x2.2.2.2.2.2.2.1, .int .i64 x2.2.2.2.2.2.2.2.1, .int .i64 x2.2.2.2.2.2.2.2.2.1, .int .i64 x2.2.2.2.2.2.2.2.2.2.1, .int .i64 x2.2.2.2.2.2.2.2.2.2.2.1, .slice x2.2.2.2.2.2.2.2.2.2.2.2.a x2.2.2.2.2.2.2.2.2.2.2.2.len x2.2.2.2.2.2.2.2.2.2.2.2.cap]) fun (p3 : Addr) =>
  bnd (newC 52 [.int .i64 (0 : Int), .int .i64 (0 : Int), .int .i64 (0 : Int), .int .i64 (0 : Int), .int .i64 (0 : Int), .int .i64 (0 : Int), .int .i64 (0 : Int), .int .i64 (0 : Int), .int .i64 (0 : Int), .int .i64 (0 : Int), .int .i64 (0 : Int), .slice none 0 0]) fun (p4 : Addr) =>
  bnd (ld (.agg (.pair (.int .i64) (.pair (.int .i64) (.pair (.int .i64) .sl)))) p1) fun (v5 : (Int × (Int × (Int × Sl)))) =>
  bnd (f14_bitblt_Check v5) fun (r6 : Int) =>
  bnd (
  cnd (r6 == (0 : Int)) (
  bnd (ld (.agg (.pair (.int .i64) (.pair (.int .i64) (.pair (.int .i64) .sl)))) p2) fun (v8 : (Int × (Int × (Int × Sl)))) =>
  bnd (f14_bitblt_Check v8) fun (r9 : Int) =>
  ret r9) (
  ret r6)) fun (s7 : Int) =>
  bnd (
  cnd (s7 == (0 : Int)) (
  bnd (ld (.int .i64) (Addr.add p1 2)) fun (v10 : Int) =>
  bnd (ld (.int .i64) (Addr.add p2 2)) fun (v11 : Int) =>
  ret (v10 != v11)) (
  ret false)) fun (b12 : Bool) =>
  bnd (
  cnd b12 (
  ret (110 : Int)) (
  ret s7)) fun (s13 : Int) =>
  bnd (
  cnd (s13 == (0 : Int)) (
  bnd (ld (.agg (.pair (.int .i64) (.pair (.int .i64) (.pair (.int .i64) (.pair (.int .i64) (.pair (.int .i64) (.pair (.int .i64) (.pair (.int .i64) (.pair (.int .i64) (.pair (.int .i64) (.pair (.int .i64) (.pair (.int .i64) .sl)))))))))))) p3) fun (v15 : (Int × (Int × (Int × (Int × (Int × (Int × (Int × (Int × (Int × (Int × (Int × Sl)))))))))))) =>
  bnd (f53_bitblt_bounded v15) fun (r16 : Int) =>
  ret r16) (
  ret s13)) fun (s14 : Int) =>
  cnd (s14 != (0 : Int)) (
  bnd (wrs p4 0 [.int .i64 (0 : Int), .int .i64 (0 : Int), .int .i64 (0 : Int), .int .i64 (0 : Int), .int .i64 (0 : Int), .int .i64 (0 : Int), .int .i64 (0 : Int), .int .i64 (0 : Int), .int .i64 (0 : Int), .int .i64 (0 : Int), .int .i64 (0 : Int), .slice none 0 0]) fun _ =>
  bnd (ld (.agg (.pair (.int .i64) (.pair (.int .i64) (.pair (.int .i64) (.pair (.int .i64) (.pair (.int .i64) (.pair (.int .i64) (.pair (.int .i64) (.pair (.int .i64) (.pair (.int .i64) (.pair (.int .i64) (.pair (.int .i64) .sl)))))))))))) p4) fun (v17 : (Int × (Int × (Int × (Int × (Int × (Int × (Int × (Int × (Int × (Int × (Int × Sl)))))))))))) =>
  ret (v17, s14)) (
  bnd (ld .sl (Addr.add p3 11)) fun (v18 : Sl) =>
  bnd (f40_slices_Cloneuint32_uint32 v18) fun (r19 : Sl) =>
  bnd (wrs (Addr.add p3 11) 0 [.slice r19.a r19.len r19.cap]) fun _ =>
  bnd (ld (.int .i64) (Addr.add p3 1)) fun (v20 : Int) =>
  bnd (ld (.int .i64) (Addr.add p3 3)) fun (v21 : Int) =>
  bnd (ld (.int .i64) (Addr.add p3 5)) fun (v22 : Int) =>
  bnd (ld (.int .i64) (Addr.add p3 7)) fun (v23 : Int) =>
  bnd (ld (.int .i64) (Addr.add p3 9)) fun (v24 : Int) =>
  bnd (ld (.int .i64) (Addr.add p1 0)) fun (v25 : Int) =>
  bnd (ld (.int .i64) (Addr.add p2 0)) fun (v26 : Int) =>
  bnd (wrs (Addr.add p3 1) 0 [.int .i64 ((Gf54_bitblt_span v20 v21 v22 v23 v24 v25 v26).1)]) fun _ =>
  bnd (wrs (Addr.add p3 5) 0 [.int .i64 ((Gf54_bitblt_span v20 v21 v22 v23 v24 v25 v26).2.1)]) fun _ =>
  bnd (wrs (Addr.add p3 3) 0 [.int .i64 ((Gf54_bitblt_span v20 v21 v22 v23 v24 v25 v26).2.2)]) fun _ =>
  bnd (ld (.int .i64) (Addr.add p3 2)) fun (v27 : Int) =>
  bnd (ld (.int .i64) (Addr.add p3 4)) fun (v28 : Int) =>
  bnd (ld (.int .i64) (Addr.add p3 6)) fun (v29 : Int) =>
  bnd (ld (.int .i64) (Addr.add p3 8)) fun (v30 : Int) =>
  bnd (ld (.int .i64) (Addr.add p3 10)) fun (v31 : Int) =>
  bnd (ld (.int .i64) (Addr.add p1 1)) fun (v32 : Int) =>
  bnd (ld (.int .i64) (Addr.add p2 1)) fun (v33 : Int) =>
  bnd (wrs (Addr.add p3 2) 0 [.int .i64 ((Gf54_bitblt_span v27 v28 v29 v30 v31 v32 v33).1)]) fun _ =>
  bnd (wrs (Addr.add p3 6) 0 [.int .i64 ((Gf54_bitblt_span v27 v28 v29 v30 v31 v32 v33).2.1)]) fun _ =>
  bnd (wrs (Addr.add p3 4) 0 [.int .i64 ((Gf54_bitblt_span v27 v28 v29 v30 v31 v32 v33).2.2)]) fun _ =>
  bnd (ld (.int .i64) (Addr.add p3 3)) fun (v34 : Int) =>
  bnd (
  cnd (decide (v34 < (1 : Int))) (
  ret true) (
  bnd (ld (.int .i64) (Addr.add p3 4)) fun (v35 : Int) =>
  ret (decide (v35 < (1 : Int))))) fun (b36 : Bool) =>
  bnd (
  cnd b36 (
  bnd (wrs (Addr.add p3 1) 0 [.int .i64 (0 : Int)]) fun _ =>
  bnd (wrs (Addr.add p3 2) 0 [.int .i64 (0 : Int)]) fun _ =>
  bnd (wrs (Addr.add p3 5) 0 [.int .i64 (0 : Int)]) fun _ =>
  bnd (wrs (Addr.add p3 6) 0 [.int .i64 (0 : Int)]) fun _ =>
  bnd (wrs (Addr.add p3 3) 0 [.int .i64 (0 : Int)]) fun _ =>
  bnd (wrs (Addr.add p3 4) 0 [.int .i64 (0 : Int)]) fun _ =>
  ret ()) (
  ret ())) fun (s37 : Unit) =>
  bnd (ld (.agg (.pair (.int .i64) (.pair (.int .i64) (.pair (.int .i64) (.pair (.int .i64) (.pair (.int .i64) (.pair (.int .i64) (.pair (.int .i64) (.pair (.int .i64) (.pair (.int .i64) (.pair (.int .i64) (.pair (.int .i64) .sl)))))))))))) p3) fun (v38 : (Int × (Int × (Int × (Int × (Int × (Int × (Int × (Int × (Int × (Int × (Int × Sl)))))))))))) =>
  bnd (wrs p4 0 [.int .i64 v38.1, .int .i64 v38.2.1, .int .i64 v38.2.2.1, .int .i64 v38.2.2.2.1, .int .i64 v38.2.2.2.2.1, .int .i64 v38.2.2.2.2.2.1, .int .i64 v38.2.2.2.2.2.2.1, .int .i64 v38.2.2.2.2.2.2.2.1, .int .i64 v38.2.2.2.2.2.2.2.2.1, .int .i64 v38.2.2.2.2.2.2.2.2.2.1, .int .i64 v38.2.2.2.2.2.2.2.2.2.2.1, .slice v38.2.2.2.2.2.2.2.2.2.2.2.a v38.2.2.2.2.2.2.2.2.2.2.2.len v38.2.2.2.2.2.2.2.2.2.2.2.cap]) fun _ =>
  bnd (ld (.agg (.pair (.int .i64) (.pair (.int .i64) (.pair (.int .i64) (.pair (.int .i64) (.pair (.int .i64) (.pair (.int .i64) (.pair (.int .i64) (.pair (.int .i64) (.pair (.int .i64) (.pair (.int .i64) (.pair (.int .i64) .sl)))))))))))) p4) fun (v39 : (Int × (Int × (Int × (Int × (Int × (Int × (Int × (Int × (Int × (Int × (Int × Sl)))))))))))) =>
  ret (v39, (0 : Int)))
noncomputable def Af25_bitblt_Clip : Ann := (.two .nil (.two .nil (.two (.two .nil (.join [(8, (.int .i64))] [13, 14] false (.two .nil .nil))) (.two (.two .nil (.join [(8, (.int .i64))] [] false (.two .nil .nil))) (.two (.two .nil (.join [(8, (.int .i64))] [26, 27] false (.two .nil .nil))) (.two (.two .nil (.two (.two .nil .nil) .nil)) (.two .nil (.two .nil (.two .nil (.two (.two .nil (.join [] [88, 89, 90, 91, 92, 93] false (.two .nil .nil))) (.two .nil .nil)))))))))))
theorem Cf25_bitblt_Clip_ok : Cf25_bitblt_Clip.Ok := mkC_ok mixed tysOk zerosOk eqsOk ⟨Sf14_bitblt_Check, Sf40_slices_Cloneuint32_uint32, Sf53_bitblt_bounded, trivial⟩ ⟨Pf54_bitblt_span, trivial⟩
theorem Ef25_bitblt_Clip (x : ((Int × (Int × (Int × Sl))) × ((Int × (Int × (Int × Sl))) × (Int × (Int × (Int × (Int × (Int × (Int × (Int × (Int × (Int × (Int × (Int × Sl)))))))))))))) : evF Cf25_bitblt_Clip Try.f25 95 (.pair (.agg (.pair (.int .i64) (.pair (.int .i64) (.pair (.int .i64) .sl)))) (.pair (.agg (.pair (.int .i64) (.pair (.int .i64) (.pair (.int .i64) .sl)))) (.agg (.pair (.int .i64) (.pair (.int .i64) (.pair (.int .i64) (.pair (.int .i64) (.pair (.int .i64) (.pair (.int .i64) (.pair (.int .i64) (.pair (.int .i64) (.pair (.int .i64) (.pair (.int .i64) (.pair (.int .i64) .sl)))))))))))))) (.tup (.pair (.agg (.pair (.int .i64) (.pair (.int .i64) (.pair (.int .i64) (.pair (.int .i64) (.pair (.int .i64) (.pair (.int .i64) (.pair (.int .i64) (.pair (.int .i64) (.pair (.int .i64) (.pair (.int .i64) (.pair (.int .i64) .sl)))))))))))) (.int .i64))) Af25_bitblt_Clip x = f25_bitblt_Clip x.1 x.2.1 x.2.2 := by kernel_rfl
theorem Sf25_bitblt_Clip : SoundF Try.prog 25 ⟨(.pair (.agg (.pair (.int .i64) (.pair (.int .i64) (.pair (.int .i64) .sl)))) (.pair (.agg (.pair (.int .i64) (.pair (.int .i64) (.pair (.int .i64) .sl)))) (.agg (.pair (.int .i64) (.pair (.int .i64) (.pair (.int .i64) (.pair (.int .i64) (.pair (.int .i64) (.pair (.int .i64) (.pair (.int .i64) (.pair (.int .i64) (.pair (.int .i64) (.pair (.int .i64) (.pair (.int .i64) .sl)))))))))))))), (.tup (.pair (.agg (.pair (.int .i64) (.pair (.int .i64) (.pair (.int .i64) (.pair (.int .i64) (.pair (.int .i64) (.pair (.int .i64) (.pair (.int .i64) (.pair (.int .i64) (.pair (.int .i64) (.pair (.int .i64) (.pair (.int .i64) .sl)))))))))))) (.int .i64))), fun x => f25_bitblt_Clip x.1 x.2.1 x.2.2⟩ :=
  soundF_of Cf25_bitblt_Clip_ok Try.func25 (by kernel_rfl) (by kernel_rfl) Ef25_bitblt_Clip
noncomputable def Cf82_bitblt_bits32_1 : Ctx := mkC Try.prog tys zeros eqs [] []
/-- palaverbitblt.bits32$1 -/
noncomputable def f82_bitblt_bits32_1 (x0 : Int) (x1 : Addr) : M Int :=
  bnd (
  cnd (decide (x0 < (0 : Int))) (
  ret true) (
  bnd (ld .sl x1) fun (v1 : Sl) =>
  ret (decide (x0 ≥ (v1.len : Int))))) fun (b2 : Bool) =>
  cnd b2 (
  ret (0 : Int)) (
  bnd (ld .sl x1) fun (v3 : Sl) =>
  bnd (ix 1 v3 x0) fun (p4 : Addr) =>
  bnd (ld (.int .u32) p4) fun (v5 : Int) =>
  ret (IntKind.wrap .u64 v5))
noncomputable def Af82_bitblt_bits32_1 : Ann := (.two .nil (.two (.two .nil (.two (.two .nil .nil) .nil)) (.two .nil .nil)))
theorem Cf82_bitblt_bits32_1_ok : Cf82_bitblt_bits32_1.Ok := mkC_ok mixed tysOk zerosOk eqsOk trivial trivial
theorem Ef82_bitblt_bits32_1 (x : (Int × Addr)) : evF Cf82_bitblt_bits32_1 Try.f82 17 (.pair (.int .i64) .adr) (.int .u64) Af82_bitblt_bits32_1 x = f82_bitblt_bits32_1 x.1 x.2 := by kernel_rfl
theorem Sf82_bitblt_bits32_1 : SoundF Try.prog 82 ⟨(.pair (.int .i64) .adr), (.int .u64), fun x => f82_bitblt_bits32_1 x.1 x.2⟩ :=
  soundF_of Cf82_bitblt_bits32_1_ok Try.func82 (by kernel_rfl) (by kernel_rfl) Ef82_bitblt_bits32_1
noncomputable def Cf81_bitblt_bits32 : Ctx := mkC Try.prog tys zeros eqs [(82, ⟨(.pair (.int .i64) .adr), (.int .u64), fun x => f82_bitblt_bits32_1 x.1 x.2⟩)] []
/-- palaverbitblt.bits32 -/
noncomputable def f81_bitblt_bits32 (x0 : Sl) (x1 : Int) : M Int :=
  bnd (newC 22 [.slice x0.a x0.len x0.cap]) fun (p1 : Addr) =>
  bnd (f82_bitblt_bits32_1 (shrI .i64 x1 5) p1) fun (r2 : Int) =>
  bnd (f82_bitblt_bits32_1 (IntKind.wrap .i64 ((shrI .i64 x1 5) + (1 : Int))) p1) fun (r3 : Int) =>
  bnd (cnt (IntKind.wrap .i64 ((32 : Int) - (bAnd .i64 x1 (31 : Int))))) fun (c4 : Nat) =>
  ret (IntKind.wrap .u32 (shrI .u64 (bOr .u64 (shlI .u64 r2 32) r3) c4))
noncomputable def Af81_bitblt_bits32 : Ann := (.two .nil (.two .nil (.two .nil (.two .nil .nil))))
theorem Cf81_bitblt_bits32_ok : Cf81_bitblt_bits32.Ok := mkC_ok mixed tysOk zerosOk eqsOk ⟨Sf82_bitblt_bits32_1, trivial⟩ trivial
theorem Ef81_bitblt_bits32 (x : (Sl × Int)) : evF Cf81_bitblt_bits32 Try.f81 24 (.pair .sl (.int .i64)) (.int .u32) Af81_bitblt_bits32 x = f81_bitblt_bits32 x.1 x.2 := by kernel_rfl
theorem Sf81_bitblt_bits32 : SoundF Try.prog 81 ⟨(.pair .sl (.int .i64)), (.int .u32), fun x => f81_bitblt_bits32 x.1 x.2⟩ :=
  soundF_of Cf81_bitblt_bits32_ok Try.func81 (by kernel_rfl) (by kernel_rfl) Ef81_bitblt_bits32
noncomputable def Cf78_bitblt_row : Ctx := mkC Try.prog tys zeros eqs [(34, ⟨(.agg (.pair (.int .i64) (.pair (.int .i64) (.pair (.int .i64) .sl)))), (.int .i64), fun x => f34_bitblt_stride x⟩), (44, ⟨(.int .i64), .val, fun x => f44_bitblt_ruled x⟩), (81, ⟨(.pair .sl (.int .i64)), (.int .u32), fun x => f81_bitblt_bits32 x.1 x.2⟩)] [(61, ⟨(.pair (.int .u32) (.int .u32)), (.int .u32), fun x => Gf61_bitblt_ruled_1 x.1 x.2⟩), (62, ⟨(.pair (.int .u32) (.int .u32)), (.int .u32), fun x => Gf62_bitblt_ruled_2 x.1 x.2⟩), (63, ⟨(.pair (.int .u32) (.int .u32)), (.int .u32), fun x => Gf63_bitblt_ruled_3 x.1 x.2⟩), (64, ⟨(.pair (.int .u32) (.int .u32)), (.int .u32), fun x => Gf64_bitblt_ruled_4 x.1 x.2⟩), (65, ⟨(.pair (.int .u32) (.int .u32)), (.int .u32), fun x => Gf65_bitblt_ruled_5 x.1 x.2⟩), (66, ⟨(.pair (.int .u32) (.int .u32)), (.int .u32), fun x => Gf66_bitblt_ruled_6 x.1 x.2⟩), (67, ⟨(.pair (.int .u32) (.int .u32)), (.int .u32), fun x => Gf67_bitblt_ruled_7 x.1 x.2⟩), (68, ⟨(.pair (.int .u32) (.int .u32)), (.int .u32), fun x => Gf68_bitblt_ruled_8 x.1 x.2⟩), (69, ⟨(.pair (.int .u32) (.int .u32)), (.int .u32), fun x => Gf69_bitblt_ruled_9 x.1 x.2⟩), (70, ⟨(.pair (.int .u32) (.int .u32)), (.int .u32), fun x => Gf70_bitblt_ruled_10 x.1 x.2⟩), (71, ⟨(.pair (.int .u32) (.int .u32)), (.int .u32), fun x => Gf71_bitblt_ruled_11 x.1 x.2⟩), (72, ⟨(.pair (.int .u32) (.int .u32)), (.int .u32), fun x => Gf72_bitblt_ruled_12 x.1 x.2⟩), (73, ⟨(.pair (.int .u32) (.int .u32)), (.int .u32), fun x => Gf73_bitblt_ruled_13 x.1 x.2⟩), (74, ⟨(.pair (.int .u32) (.int .u32)), (.int .u32), fun x => Gf74_bitblt_ruled_14 x.1 x.2⟩), (75, ⟨(.pair (.int .u32) (.int .u32)), (.int .u32), fun x => Gf75_bitblt_ruled_15 x.1 x.2⟩), (76, ⟨(.pair (.int .u32) (.int .u32)), (.int .u32), fun x => Gf76_bitblt_ruled_16 x.1 x.2⟩)]
/-- palaverbitblt.row -/
noncomputable def f78_bitblt_row (x0 : (Int × (Int × (Int × Sl)))) (x1 : (Int × (Int × (Int × Sl)))) (x2 : (Int × (Int × (Int × (Int × (Int × (Int × (Int × (Int × (Int × (Int × (Int × Sl)))))))))))) (x3 : Int) : M Unit :=
  bnd (newC 24 [.int .i64 x0.1, .int .i64 x0.2.1, .int .i64 x0.2.2.1, .slice x0.2.2.2.a x0.2.2.2.len x0.2.2.2.cap]) fun (p1 : Addr) =>
  bnd (newC 24 [.int .i64 x1.1, .int .i64 x1.2.1, .int .i64 x1.2.2.1, .slice x1.2.2.2.a x1.2.2.2.len x1.2.2.2.cap]) fun (p2 : Addr) =>
  bnd (newC 52 [.int .i64 x2.1, .int .i64 x2.2.1, .int .i64 x2.2.2.1, .int .i64 x2.2.2.2.1, .int .i64 x2.2.2.2.2.1, .int .i64 x2.2.2.2.2.2.1, .int .i64 x2.2.2.2.2.2.2.1, .int .i64 x2.2.2.2.2.2.2.2.1, .int .i64 x2.2.2.2.2.2.2.2.2.1, .int .i64 x2.2.2.2.2.2.2.2.2.2.1, .int .i64 x2.2.2.2.2.2.2.2.2.2.2.1, .slice x2.2.2.2.2.2.2.2.2.2.2.2.a x2.2.2.2.2.2.2.2.2.2.2.2.len x2.2.2.2.2.2.2.2.2.2.2.2.cap]) fun (p3 : Addr) =>
  bnd (ld (.int .i64) (Addr.add p3 3)) fun (v4 : Int) =>
  cnd (v4 == (0 : Int)) (
  ret ()) (
  bnd (ld (.int .i64) (Addr.add p3 2)) fun (v5 : Int) =>
  bnd (ld (.agg (.pair (.int .i64) (.pair (.int .i64) (.pair (.int .i64) .sl)))) p1) fun (v6 : (Int × (Int × (Int × Sl)))) =>
  bnd (f34_bitblt_stride v6) fun (r7 : Int) =>
  bnd (ld .sl (Addr.add p1 3)) fun (v8 : Sl) =>
  bnd (slc 1 v8 (some (IntKind.wrap .i64 ((IntKind.wrap .i64 (v5 + x3)) * r7))) (some (IntKind.wrap .i64 ((IntKind.wrap .i64 ((IntKind.wrap .i64 (v5 + x3)) + (1 : Int))) * r7))) none) fun (v9 : Sl) =>
  bnd (ld (.int .i64) (Addr.add p2 2)) fun (v10 : Int) =>
  bnd (
  cnd (decide (v10 > (0 : Int))) (
  bnd (ld (.agg (.pair (.int .i64) (.pair (.int .i64) (.pair (.int .i64) .sl)))) p2) fun (v12 : (Int × (Int × (Int × Sl)))) =>
  bnd (f34_bitblt_stride v12) fun (r13 : Int) =>
  bnd (ld .sl (Addr.add p2 3)) fun (v14 : Sl) =>
  bnd (ld (.int .i64) (Addr.add p3 6)) fun (v15 : Int) =>
  bnd (ld (.int .i64) (Addr.add p3 6)) fun (v16 : Int) =>
  bnd (slc 1 v14 (some (IntKind.wrap .i64 ((IntKind.wrap .i64 (v15 + x3)) * r13))) (some (IntKind.wrap .i64 ((IntKind.wrap .i64 ((IntKind.wrap .i64 (v16 + x3)) + (1 : Int))) * r13))) none) fun (v17 : Sl) =>
  ret v17) (
  ret (Sl.mk none 0 0))) fun (s11 : Sl) =>
  bnd drawM fun _ =>
  bnd (ld (.int .i64) (Addr.add p3 1)) fun (v18 : Int) =>
  bnd (ld (.int .i64) (Addr.add p1 2)) fun (v19 : Int) =>
  bnd (ld (.int .i64) (Addr.add p3 1)) fun (v20 : Int) =>
  bnd (ld (.int .i64) (Addr.add p3 3)) fun (v21 : Int) =>
  bnd (ld (.int .i64) (Addr.add p1 2)) fun (v22 : Int) =>
  bnd (ld (.int .i64) (Addr.add p3 5)) fun (v23 : Int) =>
  bnd (ld (.int .i64) (Addr.add p3 1)) fun (v24 : Int) =>
  bnd (ld (.int .i64) (Addr.add p1 2)) fun (v25 : Int) =>
  bnd (ld .sl (Addr.add p3 11)) fun (v26 : Sl) =>
  bnd (
  cnd (decide ((v26.len : Int) > (0 : Int))) (
  bnd drawM fun _ =>
  bnd (ld .sl (Addr.add p3 11)) fun (v28 : Sl) =>
  bnd (ld .sl (Addr.add p3 11)) fun (v29 : Sl) =>
  bnd (nz (v29.len : Int)) fun _ =>
  bnd (ix 1 v28 (Int.tmod (IntKind.wrap .i64 (v5 + x3)) (v29.len : Int))) fun (p30 : Addr) =>
  bnd (ld (.int .u32) p30) fun (v31 : Int) =>
  ret v31) (
  ret (4294967295 : Int))) fun (s27 : Int) =>
  bnd (ld (.int .i64) (Addr.add p3 0)) fun (v32 : Int) =>
  bnd (f44_bitblt_ruled v32) fun (r33 : Value) =>
  loopM (fun (s34 : Int) =>
  cnd (decide (s34 ≤ (IntKind.wrap .i64 (Int.tdiv (IntKind.wrap .i64 ((IntKind.wrap .i64 ((IntKind.wrap .i64 (v20 + v21)) * v22)) - (1 : Int))) (32 : Int))))) (
  bnd (
  cnd (decide ((IntKind.wrap .i64 ((IntKind.wrap .i64 (v23 - v24)) * v25)) < (0 : Int))) (
  ret (IntKind.wrap .i64 ((IntKind.wrap .i64 ((IntKind.wrap .i64 (Int.tdiv (IntKind.wrap .i64 (v18 * v19)) (32 : Int))) + (IntKind.wrap .i64 (Int.tdiv (IntKind.wrap .i64 ((IntKind.wrap .i64 ((IntKind.wrap .i64 (v20 + v21)) * v22)) - (1 : Int))) (32 : Int))))) - s34))) (
  ret s34)) fun (s35 : Int) =>
  bnd (
  cnd (!(Option.isNone s11.a)) (
  bnd (f81_bitblt_bits32 s11 (IntKind.wrap .i64 ((IntKind.wrap .i64 (s35 * (32 : Int))) + (IntKind.wrap .i64 ((IntKind.wrap .i64 (v23 - v24)) * v25))))) fun (r37 : Int) =>
  ret r37) (
  ret (4294967295 : Int))) fun (s36 : Int) =>
  bnd (
  cnd (s35 == (IntKind.wrap .i64 (Int.tdiv (IntKind.wrap .i64 (v18 * v19)) (32 : Int)))) (
  bnd (cnt (Int.tmod (IntKind.wrap .i64 (v18 * v19)) (32 : Int))) fun (c39 : Nat) =>
  ret (shrI .u32 (4294967295 : Int) c39)) (
  ret (4294967295 : Int))) fun (s38 : Int) =>
  bnd (
  cnd (s35 == (IntKind.wrap .i64 (Int.tdiv (IntKind.wrap .i64 ((IntKind.wrap .i64 ((IntKind.wrap .i64 (v20 + v21)) * v22)) - (1 : Int))) (32 : Int)))) (
  bnd (cnt (IntKind.wrap .i64 ((31 : Int) - (Int.tmod (IntKind.wrap .i64 ((IntKind.wrap .i64 ((IntKind.wrap .i64 (v20 + v21)) * v22)) - (1 : Int))) (32 : Int))))) fun (c41 : Nat) =>
  ret (bAnd .u32 s38 (shlI .u32 (4294967295 : Int) c41))) (
  ret s38)) fun (s40 : Int) =>
  bnd drawM fun _ =>
  bnd (ix 1 v9 s35) fun (p42 : Addr) =>
  bnd (ld (.int .u32) p42) fun (v43 : Int) =>
  bnd (ix 1 v9 s35) fun (p44 : Addr) =>
  bnd (ld (.int .u32) p44) fun (v45 : Int) =>
  bnd (callV Cf78_bitblt_row (.int .u32) r33 [⟨(.int .u32), (bAnd .u32 s36 s27)⟩, ⟨(.int .u32), v45⟩]) fun (r46 : Int) =>
  bnd (
  bnd (chk (.int .u32) p42 v43) fun _ =>
  ret ()) fun _ =>
  bnd (ix 1 v9 s35) fun (p47 : Addr) =>
  bnd (wrs p47 0 [.int .u32 (bOr .u32 (bAndNot .u32 v43 s40) (bAnd .u32 r46 s40))]) fun _ =>
  bnd (ret ()) fun _ =>
  ret (Sum.inl (IntKind.wrap .i64 (s34 + (1 : Int))))) (
  ret (Sum.inr ()))) (IntKind.wrap .i64 (Int.tdiv (IntKind.wrap .i64 (v18 * v19)) (32 : Int))))
noncomputable def Af78_bitblt_row : Ann := (.two .nil (.two (.two .nil (.two .nil .nil)) (.two .nil (.two .nil (.two .nil (.two .nil (.two (.two .nil (.join [(11, .sl)] [12, 46, 47, 48, 49, 50, 51, 52, 53, 54, 55, 56, 57, 58, 59, 60, 61, 62, 63] false (.two (.two .nil .nil) .nil))) (.two .nil (.two .nil (.two .nil (.two (.two .nil (.join [(16, (.int .u32))] [90, 91, 92, 93, 94, 95, 96, 97, 98] false (.two .nil .nil))) (.two .nil (.two .nil (.two .nil (.one (.loop [(20, (.int .i64))] [21, 22, 23, 107, 108, 109, 110, 111, 112, 113, 114, 115, 116, 117, 118, 119, 120, 121, 122, 123, 124, 125, 126, 127, 128, 129, 130, 131, 132, 133, 134, 135, 136, 137, 138, 139, 140, 141, 142, 143, 144, 145, 146, 147, 148, 149, 150, 151, 152, 153, 154, 155, 156, 157, 158, 159, 160, 161, 162, 163, 164] (.two (.two .nil (.two .nil .nil)) (.two (.one (.two .nil (.two (.two .nil (.join [(21, (.int .i64))] [115, 116, 117, 118, 119] false (.two .nil .nil))) (.two .nil (.two (.two .nil (.join [(22, (.int .u32))] [122, 123, 124, 125, 126, 127] false (.two .nil .nil))) (.two .nil (.two (.two .nil (.join [(23, (.int .u32))] [131, 132, 133, 134] false (.two .nil .nil))) (.two (.two .nil (.join [(23, (.int .u32))] [138, 139, 140, 141, 142, 143] false (.two .nil .nil))) (.draw [.o 0, .o 1, .o 2, .o 3, .o 4, .o 5, .o 6, .o 7, .o 8, .o 9, .o 10, .o 11, .o 12, .o 13, .o 14, .o 15, .o 17, .o 16, .o 18, .o 19, .o 20, .o 21]))))))))) .nil))))))))))))))))))
theorem Cf78_bitblt_row_ok : Cf78_bitblt_row.Ok := mkC_ok mixed tysOk zerosOk eqsOk ⟨Sf34_bitblt_stride, Sf44_bitblt_ruled, Sf81_bitblt_bits32, trivial⟩ ⟨Pf61_bitblt_ruled_1, Pf62_bitblt_ruled_2, Pf63_bitblt_ruled_3, Pf64_bitblt_ruled_4, Pf65_bitblt_ruled_5, Pf66_bitblt_ruled_6, Pf67_bitblt_ruled_7, Pf68_bitblt_ruled_8, Pf69_bitblt_ruled_9, Pf70_bitblt_ruled_10, Pf71_bitblt_ruled_11, Pf72_bitblt_ruled_12, Pf73_bitblt_ruled_13, Pf74_bitblt_ruled_14, Pf75_bitblt_ruled_15, Pf76_bitblt_ruled_16, trivial⟩
theorem Ef78_bitblt_row (x : ((Int × (Int × (Int × Sl))) × ((Int × (Int × (Int × Sl))) × ((Int × (Int × (Int × (Int × (Int × (Int × (Int × (Int × (Int × (Int × (Int × Sl))))))))))) × Int)))) : evF Cf78_bitblt_row Try.f78 165 (.pair (.agg (.pair (.int .i64) (.pair (.int .i64) (.pair (.int .i64) .sl)))) (.pair (.agg (.pair (.int .i64) (.pair (.int .i64) (.pair (.int .i64) .sl)))) (.pair (.agg (.pair (.int .i64) (.pair (.int .i64) (.pair (.int .i64) (.pair (.int .i64) (.pair (.int .i64) (.pair (.int .i64) (.pair (.int .i64) (.pair (.int .i64) (.pair (.int .i64) (.pair (.int .i64) (.pair (.int .i64) .sl)))))))))))) (.int .i64)))) (.tup .unit) Af78_bitblt_row x = f78_bitblt_row x.1 x.2.1 x.2.2.1 x.2.2.2 := by kernel_rfl
theorem Sf78_bitblt_row : SoundF Try.prog 78 ⟨(.pair (.agg (.pair (.int .i64) (.pair (.int .i64) (.pair (.int .i64) .sl)))) (.pair (.agg (.pair (.int .i64) (.pair (.int .i64) (.pair (.int .i64) .sl)))) (.pair (.agg (.pair (.int .i64) (.pair (.int .i64) (.pair (.int .i64) (.pair (.int .i64) (.pair (.int .i64) (.pair (.int .i64) (.pair (.int .i64) (.pair (.int .i64) (.pair (.int .i64) (.pair (.int .i64) (.pair (.int .i64) .sl)))))))))))) (.int .i64)))), (.tup .unit), fun x => f78_bitblt_row x.1 x.2.1 x.2.2.1 x.2.2.2⟩ :=
  soundF_of Cf78_bitblt_row_ok Try.func78 (by kernel_rfl) (by kernel_rfl) Ef78_bitblt_row
noncomputable def Cf57_bitblt_run : Ctx := mkC Try.prog tys zeros eqs [(78, ⟨(.pair (.agg (.pair (.int .i64) (.pair (.int .i64) (.pair (.int .i64) .sl)))) (.pair (.agg (.pair (.int .i64) (.pair (.int .i64) (.pair (.int .i64) .sl)))) (.pair (.agg (.pair (.int .i64) (.pair (.int .i64) (.pair (.int .i64) (.pair (.int .i64) (.pair (.int .i64) (.pair (.int .i64) (.pair (.int .i64) (.pair (.int .i64) (.pair (.int .i64) (.pair (.int .i64) (.pair (.int .i64) .sl)))))))))))) (.int .i64)))), (.tup .unit), fun x => f78_bitblt_row x.1 x.2.1 x.2.2.1 x.2.2.2⟩)] []
/-- palaverbitblt.run -/
noncomputable def f57_bitblt_run (x0 : (Int × (Int × (Int × Sl)))) (x1 : (Int × (Int × (Int × Sl)))) (x2 : (Int × (Int × (Int × (Int × (Int × (Int × (Int × (Int × (Int × (Int × (Int × Sl)))))))))))) : M Unit :=
  bnd (newC 24 [.int .i64 x0.1, .int .i64 x0.2.1, .int .i64 x0.2.2.1, .slice x0.2.2.2.a x0.2.2.2.len x0.2.2.2.cap]) fun (p1 : Addr) =>
  bnd (newC 24 [.int .i64 x1.1, .int .i64 x1.2.1, .int .i64 x1.2.2.1, .slice x1.2.2.2.a x1.2.2.2.len x1.2.2.2.cap]) fun (p2 : Addr) =>
  bnd (newC 52 [.int .i64 x2.1, .int .i64 x2.2.1, .int .i64 x2.2.2.1, .int .i64 x2.2.2.2.1, .int .i64 x2.2.2.2.2.1, .int .i64 x2.2.2.2.2.2.1, .int .i64 x2.2.2.2.2.2.2.1, .int .i64 x2.2.2.2.2.2.2.2.1, .int .i64 x2.2.2.2.2.2.2.2.2.1, .int .i64 x2.2.2.2.2.2.2.2.2.2.1, .int .i64 x2.2.2.2.2.2.2.2.2.2.2.1, .slice x2.2.2.2.2.2.2.2.2.2.2.2.a x2.2.2.2.2.2.2.2.2.2.2.2.len x2.2.2.2.2.2.2.2.2.2.2.2.cap]) fun (p3 : Addr) =>
  bnd (ld (.int .i64) (Addr.add p3 6)) fun (v4 : Int) =>
  bnd (ld (.int .i64) (Addr.add p3 2)) fun (v5 : Int) =>
  bnd (ld (.int .i64) (Addr.add p3 4)) fun (v6 : Int) =>
  loopM (fun (s7 : Int) =>
  cnd (decide (s7 < v6)) (
  bnd (
  cnd (decide (v4 < v5)) (
  bnd (ld (.int .i64) (Addr.add p3 4)) fun (v9 : Int) =>
  ret (IntKind.wrap .i64 ((IntKind.wrap .i64 (v9 - (1 : Int))) - s7))) (
  ret s7)) fun (s8 : Int) =>
  bnd (ld (.agg (.pair (.int .i64) (.pair (.int .i64) (.pair (.int .i64) .sl)))) p1) fun (v10 : (Int × (Int × (Int × Sl)))) =>
  bnd (ld (.agg (.pair (.int .i64) (.pair (.int .i64) (.pair (.int .i64) .sl)))) p2) fun (v11 : (Int × (Int × (Int × Sl)))) =>
  bnd (ld (.agg (.pair (.int .i64) (.pair (.int .i64) (.pair (.int .i64) (.pair (.int .i64) (.pair (.int .i64) (.pair (.int .i64) (.pair (.int .i64) (.pair (.int .i64) (.pair (.int .i64) (.pair (.int .i64) (.pair (.int .i64) .sl)))))))))))) p3) fun (v12 : (Int × (Int × (Int × (Int × (Int × (Int × (Int × (Int × (Int × (Int × (Int × Sl)))))))))))) =>
  bnd (f78_bitblt_row v10 v11 v12 s8) fun (r13 : Unit) =>
  ret (Sum.inl (IntKind.wrap .i64 (s7 + (1 : Int))))) (
  ret (Sum.inr ()))) (0 : Int)
noncomputable def Af57_bitblt_run : Ann := (.two .nil (.two .nil (.two .nil (.one (.loop [(15, (.int .i64))] [7, 16, 17, 18, 19, 20, 21, 22, 23, 24, 25, 26, 27, 28, 29] (.two .nil (.two (.two .nil .nil) (.two (.one (.two .nil (.two (.two .nil (.join [(7, (.int .i64))] [19, 20, 21, 22, 23] false (.two .nil .nil))) .nil))) .nil))))))))
theorem Cf57_bitblt_run_ok : Cf57_bitblt_run.Ok := mkC_ok mixed tysOk zerosOk eqsOk ⟨Sf78_bitblt_row, trivial⟩ trivial
theorem Ef57_bitblt_run (x : ((Int × (Int × (Int × Sl))) × ((Int × (Int × (Int × Sl))) × (Int × (Int × (Int × (Int × (Int × (Int × (Int × (Int × (Int × (Int × (Int × Sl)))))))))))))) : evF Cf57_bitblt_run Try.f57 30 (.pair (.agg (.pair (.int .i64) (.pair (.int .i64) (.pair (.int .i64) .sl)))) (.pair (.agg (.pair (.int .i64) (.pair (.int .i64) (.pair (.int .i64) .sl)))) (.agg (.pair (.int .i64) (.pair (.int .i64) (.pair (.int .i64) (.pair (.int .i64) (.pair (.int .i64) (.pair (.int .i64) (.pair (.int .i64) (.pair (.int .i64) (.pair (.int .i64) (.pair (.int .i64) (.pair (.int .i64) .sl)))))))))))))) (.tup .unit) Af57_bitblt_run x = f57_bitblt_run x.1 x.2.1 x.2.2 := by kernel_rfl
theorem Sf57_bitblt_run : SoundF Try.prog 57 ⟨(.pair (.agg (.pair (.int .i64) (.pair (.int .i64) (.pair (.int .i64) .sl)))) (.pair (.agg (.pair (.int .i64) (.pair (.int .i64) (.pair (.int .i64) .sl)))) (.agg (.pair (.int .i64) (.pair (.int .i64) (.pair (.int .i64) (.pair (.int .i64) (.pair (.int .i64) (.pair (.int .i64) (.pair (.int .i64) (.pair (.int .i64) (.pair (.int .i64) (.pair (.int .i64) (.pair (.int .i64) .sl)))))))))))))), (.tup .unit), fun x => f57_bitblt_run x.1 x.2.1 x.2.2⟩ :=
  soundF_of Cf57_bitblt_run_ok Try.func57 (by kernel_rfl) (by kernel_rfl) Ef57_bitblt_run
noncomputable def Cf30_bitblt_Move : Ctx := mkC Try.prog tys zeros eqs [(25, ⟨(.pair (.agg (.pair (.int .i64) (.pair (.int .i64) (.pair (.int .i64) .sl)))) (.pair (.agg (.pair (.int .i64) (.pair (.int .i64) (.pair (.int .i64) .sl)))) (.agg (.pair (.int .i64) (.pair (.int .i64) (.pair (.int .i64) (.pair (.int .i64) (.pair (.int .i64) (.pair (.int .i64) (.pair (.int .i64) (.pair (.int .i64) (.pair (.int .i64) (.pair (.int .i64) (.pair (.int .i64) .sl)))))))))))))), (.tup (.pair (.agg (.pair (.int .i64) (.pair (.int .i64) (.pair (.int .i64) (.pair (.int .i64) (.pair (.int .i64) (.pair (.int .i64) (.pair (.int .i64) (.pair (.int .i64) (.pair (.int .i64) (.pair (.int .i64) (.pair (.int .i64) .sl)))))))))))) (.int .i64))), fun x => f25_bitblt_Clip x.1 x.2.1 x.2.2⟩), (40, ⟨.sl, .sl, fun x => f40_slices_Cloneuint32_uint32 x⟩), (57, ⟨(.pair (.agg (.pair (.int .i64) (.pair (.int .i64) (.pair (.int .i64) .sl)))) (.pair (.agg (.pair (.int .i64) (.pair (.int .i64) (.pair (.int .i64) .sl)))) (.agg (.pair (.int .i64) (.pair (.int .i64) (.pair (.int .i64) (.pair (.int .i64) (.pair (.int .i64) (.pair (.int .i64) (.pair (.int .i64) (.pair (.int .i64) (.pair (.int .i64) (.pair (.int .i64) (.pair (.int .i64) .sl)))))))))))))), (.tup .unit), fun x => f57_bitblt_run x.1 x.2.1 x.2.2⟩)] []
/-- palaverbitblt.Move -/
noncomputable def f30_bitblt_Move (x0 : (Int × (Int × (Int × Sl)))) (x1 : (Int × (Int × (Int × (Int × (Int × (Int × (Int × (Int × (Int × (Int × (Int × Sl)))))))))))) : M ((Int × (Int × (Int × Sl))) × Int) :=
  bnd (newC 24 [.int .i64 x0.1, .int .i64 x0.2.1, .int .i64 x0.2.2.1, .slice x0.2.2.2.a x0.2.2.2.len x0.2.2.2.cap]) fun (p1 : Addr) =>
  bnd (newC 52 [.int .i64 x1.1, .int .i64 x1.2.1, .int .i64 x1.2.2.1, .int .i64 x1.2.2.2.1, .int .i64 x1.2.2.2.2.1, .int .i64 x1.2.2.2.2.2.1, .int .i64 x1.2.2.2.2.2.2.1, .int .i64 x1.2.2.2.2.2.2.2.1, .int .i64 x1.2.2.2.2.2.2.2.2.1, .int .i64 x1.2.2.2.2.2.2.2.2.2.1, .int .i64 x1.2.2.2.2.2.2.2.2.2.2.1, .slice x1.2.2.2.2.2.2.2.2.2.2.2.a x1.2.2.2.2.2.2.2.2.2.2.2.len x1.2.2.2.2.2.2.2.2.2.2.2.cap]) fun (p2 : Addr) =>
  bnd (newC 24 [.int .i64 (0 : Int), .int .i64 (0 : Int), .int .i64 (0 : Int), .slice none 0 0]) fun (p3 : Addr) =>
  bnd (ld (.agg (.pair (.int .i64) (.pair (.int .i64) (.pair (.int .i64) .sl)))) p1) fun (v4 : (Int × (Int × (Int × Sl)))) =>
  bnd (ld (.agg (.pair (.int .i64) (.pair (.int .i64) (.pair (.int .i64) .sl)))) p1) fun (v5 : (Int × (Int × (Int × Sl)))) =>
  bnd (ld (.agg (.pair (.int .i64) (.pair (.int .i64) (.pair (.int .i64) (.pair (.int .i64) (.pair (.int .i64) (.pair (.int .i64) (.pair (.int .i64) (.pair (.int .i64) (.pair (.int .i64) (.pair (.int .i64) (.pair (.int .i64) .sl)))))))))))) p2) fun (v6 : (Int × (Int × (Int × (Int × (Int × (Int × (Int × (Int × (Int × (Int × (Int × Sl)))))))))))) =>
  bnd (f25_bitblt_Clip v4 v5 v6) fun (r7 : ((Int × (Int × (Int × (Int × (Int × (Int × (Int × (Int × (Int × (Int × (Int × Sl))))))))))) × Int)) =>
  bnd (newC 52 [.int .i64 (0 : Int), .int .i64 (0 : Int), .int .i64 (0 : Int), .int .i64 (0 : Int), .int .i64 (0 : Int), .int .i64 (0 : Int), .int .i64 (0 : Int), .int .i64 (0 : Int), .int .i64 (0 : Int), .int .i64 (0 : Int), .int .i64 (0 : Int), .slice none 0 0]) fun (p8 : Addr) =>
  bnd (wrs p8 0 [.int .i64 r7.1.1, .int .i64 r7.1.2.1, .int .i64 r7.1.2.2.1, .int .i64 r7.1.2.2.2.1, .int .i64 r7.1.2.2.2.2.1, .int .i64 r7.1.2.2.2.2.2.1, .int .i64 r7.1.2.2.2.2.2.2.1, .int .i64 r7.1.2.2.2.2.2.2.2.1, .int .i64 r7.1.2.2.2.2.2.2.2.2.1, .int .i64 r7.1.2.2.2.2.2.2.2.2.2.1, .int .i64 r7.1.2.2.2.2.2.2.2.2.2.2.1, .slice r7.1.2.2.2.2.2.2.2.2.2.2.2.a r7.1.2.2.2.2.2.2.2.2.2.2.2.len r7.1.2.2.2.2.2.2.2.2.2.2.2.cap]) fun _ =>
  cnd (r7.2 != (0 : Int)) (
  bnd (wrs p3 0 [.int .i64 (0 : Int), .int .i64 (0 : Int), .int .i64 (0 : Int), .slice none 0 0]) fun _ =>
  bnd (ld (.agg (.pair (.int .i64) (.pair (.int .i64) (.pair (.int .i64) .sl)))) p3) fun (v9 : (Int × (Int × (Int × Sl)))) =>
  ret (v9, r7.2)) (
  bnd (ld .sl (Addr.add p1 3)) fun (v10 : Sl) =>
  bnd (f40_slices_Cloneuint32_uint32 v10) fun (r11 : Sl) =>
  bnd (wrs (Addr.add p1 3) 0 [.slice r11.a r11.len r11.cap]) fun _ =>
  bnd (ld (.agg (.pair (.int .i64) (.pair (.int .i64) (.pair (.int .i64) .sl)))) p1) fun (v12 : (Int × (Int × (Int × Sl)))) =>
  bnd (ld (.agg (.pair (.int .i64) (.pair (.int .i64) (.pair (.int .i64) .sl)))) p1) fun (v13 : (Int × (Int × (Int × Sl)))) =>
  bnd (ld (.agg (.pair (.int .i64) (.pair (.int .i64) (.pair (.int .i64) (.pair (.int .i64) (.pair (.int .i64) (.pair (.int .i64) (.pair (.int .i64) (.pair (.int .i64) (.pair (.int .i64) (.pair (.int .i64) (.pair (.int .i64) .sl)))))))))))) p8) fun (v14 : (Int × (Int × (Int × (Int × (Int × (Int × (Int × (Int × (Int × (Int × (Int × Sl)))))))))))) =>
  bnd (f57_bitblt_run v12 v13 v14) fun (r15 : Unit) =>
  bnd (ld (.agg (.pair (.int .i64) (.pair (.int .i64) (.pair (.int .i64) .sl)))) p1) fun (v16 : (Int × (Int × (Int × Sl)))) =>
  bnd (wrs p3 0 [.int .i64 v16.1, .int .i64 v16.2.1, .int .i64 v16.2.2.1, .slice v16.2.2.2.a v16.2.2.2.len v16.2.2.2.cap]) fun _ =>
  bnd (ld (.agg (.pair (.int .i64) (.pair (.int .i64) (.pair (.int .i64) .sl)))) p3) fun (v17 : (Int × (Int × (Int × Sl)))) =>
  ret (v17, (0 : Int)))
noncomputable def Af30_bitblt_Move : Ann := (.two .nil (.two .nil (.two (.two .nil (.two (.two .nil .nil) .nil)) (.two .nil (.two .nil (.two .nil .nil))))))
theorem Cf30_bitblt_Move_ok : Cf30_bitblt_Move.Ok := mkC_ok mixed tysOk zerosOk eqsOk ⟨Sf25_bitblt_Clip, Sf40_slices_Cloneuint32_uint32, Sf57_bitblt_run, trivial⟩ trivial
theorem Ef30_bitblt_Move (x : ((Int × (Int × (Int × Sl))) × (Int × (Int × (Int × (Int × (Int × (Int × (Int × (Int × (Int × (Int × (Int × Sl))))))))))))) : evF Cf30_bitblt_Move Try.f30 28 (.pair (.agg (.pair (.int .i64) (.pair (.int .i64) (.pair (.int .i64) .sl)))) (.agg (.pair (.int .i64) (.pair (.int .i64) (.pair (.int .i64) (.pair (.int .i64) (.pair (.int .i64) (.pair (.int .i64) (.pair (.int .i64) (.pair (.int .i64) (.pair (.int .i64) (.pair (.int .i64) (.pair (.int .i64) .sl))))))))))))) (.tup (.pair (.agg (.pair (.int .i64) (.pair (.int .i64) (.pair (.int .i64) .sl)))) (.int .i64))) Af30_bitblt_Move x = f30_bitblt_Move x.1 x.2 := by kernel_rfl
theorem Sf30_bitblt_Move : SoundF Try.prog 30 ⟨(.pair (.agg (.pair (.int .i64) (.pair (.int .i64) (.pair (.int .i64) .sl)))) (.agg (.pair (.int .i64) (.pair (.int .i64) (.pair (.int .i64) (.pair (.int .i64) (.pair (.int .i64) (.pair (.int .i64) (.pair (.int .i64) (.pair (.int .i64) (.pair (.int .i64) (.pair (.int .i64) (.pair (.int .i64) .sl))))))))))))), (.tup (.pair (.agg (.pair (.int .i64) (.pair (.int .i64) (.pair (.int .i64) .sl)))) (.int .i64))), fun x => f30_bitblt_Move x.1 x.2⟩ :=
  soundF_of Cf30_bitblt_Move_ok Try.func30 (by kernel_rfl) (by kernel_rfl) Ef30_bitblt_Move
noncomputable def Cf31_bitblt_Fill : Ctx := mkC Try.prog tys zeros eqs [(14, ⟨(.agg (.pair (.int .i64) (.pair (.int .i64) (.pair (.int .i64) .sl)))), (.int .i64), fun x => f14_bitblt_Check x⟩), (25, ⟨(.pair (.agg (.pair (.int .i64) (.pair (.int .i64) (.pair (.int .i64) .sl)))) (.pair (.agg (.pair (.int .i64) (.pair (.int .i64) (.pair (.int .i64) .sl)))) (.agg (.pair (.int .i64) (.pair (.int .i64) (.pair (.int .i64) (.pair (.int .i64) (.pair (.int .i64) (.pair (.int .i64) (.pair (.int .i64) (.pair (.int .i64) (.pair (.int .i64) (.pair (.int .i64) (.pair (.int .i64) .sl)))))))))))))), (.tup (.pair (.agg (.pair (.int .i64) (.pair (.int .i64) (.pair (.int .i64) (.pair (.int .i64) (.pair (.int .i64) (.pair (.int .i64) (.pair (.int .i64) (.pair (.int .i64) (.pair (.int .i64) (.pair (.int .i64) (.pair (.int .i64) .sl)))))))))))) (.int .i64))), fun x => f25_bitblt_Clip x.1 x.2.1 x.2.2⟩), (40, ⟨.sl, .sl, fun x => f40_slices_Cloneuint32_uint32 x⟩), (53, ⟨(.agg (.pair (.int .i64) (.pair (.int .i64) (.pair (.int .i64) (.pair (.int .i64) (.pair (.int .i64) (.pair (.int .i64) (.pair (.int .i64) (.pair (.int .i64) (.pair (.int .i64) (.pair (.int .i64) (.pair (.int .i64) .sl)))))))))))), (.int .i64), fun x => f53_bitblt_bounded x⟩), (57, ⟨(.pair (.agg (.pair (.int .i64) (.pair (.int .i64) (.pair (.int .i64) .sl)))) (.pair (.agg (.pair (.int .i64) (.pair (.int .i64) (.pair (.int .i64) .sl)))) (.agg (.pair (.int .i64) (.pair (.int .i64) (.pair (.int .i64) (.pair (.int .i64) (.pair (.int .i64) (.pair (.int .i64) (.pair (.int .i64) (.pair (.int .i64) (.pair (.int .i64) (.pair (.int .i64) (.pair (.int .i64) .sl)))))))))))))), (.tup .unit), fun x => f57_bitblt_run x.1 x.2.1 x.2.2⟩)] []
/-- palaverbitblt.Fill -/
noncomputable def f31_bitblt_Fill (x0 : (Int × (Int × (Int × Sl)))) (x1 : (Int × (Int × (Int × (Int × (Int × (Int × (Int × (Int × (Int × (Int × (Int × Sl)))))))))))) : M ((Int × (Int × (Int × Sl))) × Int) :=
  bnd (newC 24 [.int .i64 x0.1, .int .i64 x0.2.1, .int .i64 x0.2.2.1, .slice x0.2.2.2.a x0.2.2.2.len x0.2.2.2.cap]) fun (p1 : Addr) =>
  bnd (newC 52 [.int .i64 x1.1, .int .i64 x1.2.1, .int .i64 x1.2.2.1, .int .i64 x1.2.2.2.1, .int .i64 x1.2.2.2.2.1, .int .i64 x1.2.2.2.2.2.1, .int .i64 x1.2.2.2.2.2.2.1, .int .i64 x1.2.2.2.2.2.2.2.1, .int .i64 x1.2.2.2.2.2.2.2.2.1, .int .i64 x1.2.2.2.2.2.2.2.2.2.1, .int .i64 x1.2.2.2.2.2.2.2.2.2.2.1, .slice x1.2.2.2.2.2.2.2.2.2.2.2.a x1.2.2.2.2.2.2.2.2.2.2.2.len x1.2.2.2.2.2.2.2.2.2.2.2.cap]) fun (p2 : Addr) =>
  bnd (newC 24 [.int .i64 (0 : Int), .int .i64 (0 : Int), .int .i64 (0 : Int), .slice none 0 0]) fun (p3 : Addr) =>
  bnd (wrs (Addr.add p2 5) 0 [.int .i64 (0 : Int)]) fun _ =>
  bnd (wrs (Addr.add p2 6) 0 [.int .i64 (0 : Int)]) fun _ =>
  bnd (ld (.agg (.pair (.int .i64) (.pair (.int .i64) (.pair (.int .i64) .sl)))) p1) fun (v4 : (Int × (Int × (Int × Sl)))) =>
  bnd (f14_bitblt_Check v4) fun (r5 : Int) =>
  cnd (r5 != (0 : Int)) (
  bnd (wrs p3 0 [.int .i64 (0 : Int), .int .i64 (0 : Int), .int .i64 (0 : Int), .slice none 0 0]) fun _ =>
  bnd (ld (.agg (.pair (.int .i64) (.pair (.int .i64) (.pair (.int .i64) .sl)))) p3) fun (v6 : (Int × (Int × (Int × Sl)))) =>
  ret (v6, r5)) (
  bnd (ld (.agg (.pair (.int .i64) (.pair (.int .i64) (.pair (.int .i64) (.pair (.int .i64) (.pair (.int .i64) (.pair (.int .i64) (.pair (.int .i64) (.pair (.int .i64) (.pair (.int .i64) (.pair (.int .i64) (.pair (.int .i64) .sl)))))))))))) p2) fun (v7 : (Int × (Int × (Int × (Int × (Int × (Int × (Int × (Int × (Int × (Int × (Int × Sl)))))))))))) =>
  bnd (f53_bitblt_bounded v7) fun (r8 : Int) =>
  cnd (r8 != (0 : Int)) (
  bnd (wrs p3 0 [.int .i64 (0 : Int), .int .i64 (0 : Int), .int .i64 (0 : Int), .slice none 0 0]) fun _ =>
  bnd (ld (.agg (.pair (.int .i64) (.pair (.int .i64) (.pair (.int .i64) .sl)))) p3) fun (v9 : (Int × (Int × (Int × Sl)))) =>
  ret (v9, r8)) (
  bnd (ld (.int .i64) (Addr.add p2 1)) fun (v10 : Int) =>
  bnd (ld (.int .i64) (Addr.add p2 2)) fun (v11 : Int) =>
  bnd (wrs (Addr.add p2 5) 0 [.int .i64 v10]) fun _ =>
  bnd (wrs (Addr.add p2 6) 0 [.int .i64 v11]) fun _ =>
  bnd (ld (.agg (.pair (.int .i64) (.pair (.int .i64) (.pair (.int .i64) .sl)))) p1) fun (v12 : (Int × (Int × (Int × Sl)))) =>
  bnd (ld (.agg (.pair (.int .i64) (.pair (.int .i64) (.pair (.int .i64) .sl)))) p1) fun (v13 : (Int × (Int × (Int × Sl)))) =>
  bnd (ld (.agg (.pair (.int .i64) (.pair (.int .i64) (.pair (.int .i64) (.pair (.int .i64) (.pair (.int .i64) (.pair (.int .i64) (.pair (.int .i64) (.pair (.int .i64) (.pair (.int .i64) (.pair (.int .i64) (.pair (.int .i64) .sl)))))))))))) p2) fun (v14 : (Int × (Int × (Int × (Int × (Int × (Int × (Int × (Int × (Int × (Int × (Int × Sl)))))))))))) =>
  bnd (f25_bitblt_Clip v12 v13 v14) fun (r15 : ((Int × (Int × (Int × (Int × (Int × (Int × (Int × (Int × (Int × (Int × (Int × Sl))))))))))) × Int)) =>
  bnd (newC 52 [.int .i64 (0 : Int), .int .i64 (0 : Int), .int .i64 (0 : Int), .int .i64 (0 : Int), .int .i64 (0 : Int), .int .i64 (0 : Int), .int .i64 (0 : Int), .int .i64 (0 : Int), .int .i64 (0 : Int), .int .i64 (0 : Int), .int .i64 (0 : Int), .slice none 0 0]) fun (p16 : Addr) =>
  bnd (wrs p16 0 [.int .i64 r15.1.1, .int .i64 r15.1.2.1, .int .i64 r15.1.2.2.1, .int .i64 r15.1.2.2.2.1, .int .i64 r15.1.2.2.2.2.1, .int .i64 r15.1.2.2.2.2.2.1, .int .i64 r15.1.2.2.2.2.2.2.1, .int .i64 r15.1.2.2.2.2.2.2.2.1, .int .i64 r15.1.2.2.2.2.2.2.2.2.1, .int .i64 r15.1.2.2.2.2.2.2.2.2.2.1, .int .i64 r15.1.2.2.2.2.2.2.2.2.2.2.1, .slice r15.1.2.2.2.2.2.2.2.2.2.2.2.a r15.1.2.2.2.2.2.2.2.2.2.2.2.len r15.1.2.2.2.2.2.2.2.2.2.2.2.cap]) fun _ =>
  bnd (ld .sl (Addr.add p1 3)) fun (v17 : Sl) =>
  bnd (f40_slices_Cloneuint32_uint32 v17) fun (r18 : Sl) =>
  bnd (wrs (Addr.add p1 3) 0 [.slice r18.a r18.len r18.cap]) fun _ =>
  bnd (ld (.agg (.pair (.int .i64) (.pair (.int .i64) (.pair (.int .i64) .sl)))) p1) fun (v19 : (Int × (Int × (Int × Sl)))) =>
  bnd (ld (.agg (.pair (.int .i64) (.pair (.int .i64) (.pair (.int .i64) (.pair (.int .i64) (.pair (.int .i64) (.pair (.int .i64) (.pair (.int .i64) (.pair (.int .i64) (.pair (.int .i64) (.pair (.int .i64) (.pair (.int .i64) .sl)))))))))))) p16) fun (v20 : (Int × (Int × (Int × (Int × (Int × (Int × (Int × (Int × (Int × (Int × (Int × Sl)))))))))))) =>
  bnd (f57_bitblt_run v19 ((0 : Int), (0 : Int), (0 : Int), (Sl.mk none 0 0)) v20) fun (r21 : Unit) =>
  bnd (ld (.agg (.pair (.int .i64) (.pair (.int .i64) (.pair (.int .i64) .sl)))) p1) fun (v22 : (Int × (Int × (Int × Sl)))) =>
  bnd (wrs p3 0 [.int .i64 v22.1, .int .i64 v22.2.1, .int .i64 v22.2.2.1, .slice v22.2.2.2.a v22.2.2.2.len v22.2.2.2.cap]) fun _ =>
  bnd (ld (.agg (.pair (.int .i64) (.pair (.int .i64) (.pair (.int .i64) .sl)))) p3) fun (v23 : (Int × (Int × (Int × Sl)))) =>
  ret (v23, (0 : Int))))
noncomputable def Af31_bitblt_Fill : Ann := (.two .nil (.two .nil (.two (.two .nil (.two .nil (.two (.two .nil .nil) .nil))) (.two (.two .nil (.two .nil (.two (.two .nil .nil) .nil))) (.two .nil (.two .nil (.two .nil (.two .nil (.two .nil .nil)))))))))
theorem Cf31_bitblt_Fill_ok : Cf31_bitblt_Fill.Ok := mkC_ok mixed tysOk zerosOk eqsOk ⟨Sf14_bitblt_Check, Sf25_bitblt_Clip, Sf40_slices_Cloneuint32_uint32, Sf53_bitblt_bounded, Sf57_bitblt_run, trivial⟩ trivial
theorem Ef31_bitblt_Fill (x : ((Int × (Int × (Int × Sl))) × (Int × (Int × (Int × (Int × (Int × (Int × (Int × (Int × (Int × (Int × (Int × Sl))))))))))))) : evF Cf31_bitblt_Fill Try.f31 46 (.pair (.agg (.pair (.int .i64) (.pair (.int .i64) (.pair (.int .i64) .sl)))) (.agg (.pair (.int .i64) (.pair (.int .i64) (.pair (.int .i64) (.pair (.int .i64) (.pair (.int .i64) (.pair (.int .i64) (.pair (.int .i64) (.pair (.int .i64) (.pair (.int .i64) (.pair (.int .i64) (.pair (.int .i64) .sl))))))))))))) (.tup (.pair (.agg (.pair (.int .i64) (.pair (.int .i64) (.pair (.int .i64) .sl)))) (.int .i64))) Af31_bitblt_Fill x = f31_bitblt_Fill x.1 x.2 := by kernel_rfl
theorem Sf31_bitblt_Fill : SoundF Try.prog 31 ⟨(.pair (.agg (.pair (.int .i64) (.pair (.int .i64) (.pair (.int .i64) .sl)))) (.agg (.pair (.int .i64) (.pair (.int .i64) (.pair (.int .i64) (.pair (.int .i64) (.pair (.int .i64) (.pair (.int .i64) (.pair (.int .i64) (.pair (.int .i64) (.pair (.int .i64) (.pair (.int .i64) (.pair (.int .i64) .sl))))))))))))), (.tup (.pair (.agg (.pair (.int .i64) (.pair (.int .i64) (.pair (.int .i64) .sl)))) (.int .i64))), fun x => f31_bitblt_Fill x.1 x.2⟩ :=
  soundF_of Cf31_bitblt_Fill_ok Try.func31 (by kernel_rfl) (by kernel_rfl) Ef31_bitblt_Fill
noncomputable def Cf8_palaverlaw11_works : Ctx := mkC Try.prog tys zeros eqs [(10, ⟨(.pair (.int .i64) (.pair (.int .i64) (.int .i64))), (.tup (.pair (.agg (.pair (.int .i64) (.pair (.int .i64) (.pair (.int .i64) .sl)))) (.int .i64))), fun x => f10_bitblt_New x.1 x.2.1 x.2.2⟩), (18, ⟨(.pair (.agg (.pair (.int .i64) (.pair (.int .i64) (.pair (.int .i64) .sl)))) (.pair (.int .i64) (.pair (.int .i64) (.int .u32)))), (.tup (.pair (.agg (.pair (.int .i64) (.pair (.int .i64) (.pair (.int .i64) .sl)))) (.int .i64))), fun x => f18_bitblt_Put x.1 x.2.1 x.2.2.1 x.2.2.2⟩), (20, ⟨(.pair (.int .i64) (.pair (.int .u32) (.int .u32))), (.tup (.pair (.int .u32) (.int .i64))), fun x => f20_bitblt_Rule x.1 x.2.1 x.2.2⟩), (30, ⟨(.pair (.agg (.pair (.int .i64) (.pair (.int .i64) (.pair (.int .i64) .sl)))) (.agg (.pair (.int .i64) (.pair (.int .i64) (.pair (.int .i64) (.pair (.int .i64) (.pair (.int .i64) (.pair (.int .i64) (.pair (.int .i64) (.pair (.int .i64) (.pair (.int .i64) (.pair (.int .i64) (.pair (.int .i64) .sl))))))))))))), (.tup (.pair (.agg (.pair (.int .i64) (.pair (.int .i64) (.pair (.int .i64) .sl)))) (.int .i64))), fun x => f30_bitblt_Move x.1 x.2⟩), (31, ⟨(.pair (.agg (.pair (.int .i64) (.pair (.int .i64) (.pair (.int .i64) .sl)))) (.agg (.pair (.int .i64) (.pair (.int .i64) (.pair (.int .i64) (.pair (.int .i64) (.pair (.int .i64) (.pair (.int .i64) (.pair (.int .i64) (.pair (.int .i64) (.pair (.int .i64) (.pair (.int .i64) (.pair (.int .i64) .sl))))))))))))), (.tup (.pair (.agg (.pair (.int .i64) (.pair (.int .i64) (.pair (.int .i64) .sl)))) (.int .i64))), fun x => f31_bitblt_Fill x.1 x.2⟩)] []
/-- palaverpalaverlaw11.works -/
noncomputable def f8_palaverlaw11_works : M Bool :=
  bnd (f10_bitblt_New (33 : Int) (2 : Int) (1 : Int)) fun (r1 : ((Int × (Int × (Int × Sl))) × Int)) =>
  bnd (newC 24 [.int .i64 (0 : Int), .int .i64 (0 : Int), .int .i64 (0 : Int), .slice none 0 0]) fun (p2 : Addr) =>
  bnd (wrs p2 0 [.int .i64 r1.1.1, .int .i64 r1.1.2.1, .int .i64 r1.1.2.2.1, .slice r1.1.2.2.2.a r1.1.2.2.2.len r1.1.2.2.2.cap]) fun _ =>
  bnd (ld (.agg (.pair (.int .i64) (.pair (.int .i64) (.pair (.int .i64) .sl)))) p2) fun (v3 : (Int × (Int × (Int × Sl)))) =>
  bnd (f18_bitblt_Put v3 (32 : Int) (0 : Int) (1 : Int)) fun (r4 : ((Int × (Int × (Int × Sl))) × Int)) =>
  bnd (newC 24 [.int .i64 (0 : Int), .int .i64 (0 : Int), .int .i64 (0 : Int), .slice none 0 0]) fun (p5 : Addr) =>
  bnd (wrs p5 0 [.int .i64 r4.1.1, .int .i64 r4.1.2.1, .int .i64 r4.1.2.2.1, .slice r4.1.2.2.2.a r4.1.2.2.2.len r4.1.2.2.2.cap]) fun _ =>
  bnd (f20_bitblt_Rule (6 : Int) (12 : Int) (10 : Int)) fun (r6 : (Int × Int)) =>
  bnd (f20_bitblt_Rule (8 : Int) (12 : Int) (10 : Int)) fun (r7 : (Int × Int)) =>
  bnd (f20_bitblt_Rule (16 : Int) (0 : Int) (0 : Int)) fun (r8 : (Int × Int)) =>
  bnd (runV Try.prog .sl (Instr.buildSlice 22 1 #[(0, .int .u32 (4026531840 : Int))])) fun (v9 : Sl) =>
  bnd (newC 24 [.int .i64 (0 : Int), .int .i64 (0 : Int), .int .i64 (0 : Int), .slice none 0 0]) fun (p10 : Addr) =>
  bnd (wrs p10 0 [.int .i64 (8 : Int), .int .i64 (1 : Int), .int .i64 (1 : Int), .slice v9.a v9.len v9.cap]) fun _ =>
  bnd (ld (.agg (.pair (.int .i64) (.pair (.int .i64) (.pair (.int .i64) .sl)))) p10) fun (v11 : (Int × (Int × (Int × Sl)))) =>
  bnd (f30_bitblt_Move v11 ((3 : Int), (2 : Int), (0 : Int), (8 : Int), (1 : Int), (0 : Int), (0 : Int), (0 : Int), (0 : Int), (8 : Int), (1 : Int), (Sl.mk none 0 0))) fun (r12 : ((Int × (Int × (Int × Sl))) × Int)) =>
  bnd (newC 24 [.int .i64 (0 : Int), .int .i64 (0 : Int), .int .i64 (0 : Int), .slice none 0 0]) fun (p13 : Addr) =>
  bnd (wrs p13 0 [.int .i64 r12.1.1, .int .i64 r12.1.2.1, .int .i64 r12.1.2.2.1, .slice r12.1.2.2.2.a r12.1.2.2.2.len r12.1.2.2.2.cap]) fun _ =>
  bnd (ld (.agg (.pair (.int .i64) (.pair (.int .i64) (.pair (.int .i64) .sl)))) p10) fun (v14 : (Int × (Int × (Int × Sl)))) =>
  bnd (runV Try.prog .sl (Instr.buildSlice 22 1 #[(0, .int .u32 (2863311530 : Int))])) fun (v15 : Sl) =>
  bnd (f31_bitblt_Fill v14 ((3 : Int), (0 : Int), (0 : Int), (8 : Int), (1 : Int), (0 : Int), (0 : Int), (0 : Int), (0 : Int), (8 : Int), (1 : Int), v15)) fun (r16 : ((Int × (Int × (Int × Sl))) × Int)) =>
  bnd (newC 24 [.int .i64 (0 : Int), .int .i64 (0 : Int), .int .i64 (0 : Int), .slice none 0 0]) fun (p17 : Addr) =>
  bnd (wrs p17 0 [.int .i64 r16.1.1, .int .i64 r16.1.2.1, .int .i64 r16.1.2.2.1, .slice r16.1.2.2.2.a r16.1.2.2.2.len r16.1.2.2.2.cap]) fun _ =>
  bnd (f10_bitblt_New (4097 : Int) (1 : Int) (1 : Int)) fun (r18 : ((Int × (Int × (Int × Sl))) × Int)) =>
  bnd (newC 24 [.int .i64 (0 : Int), .int .i64 (0 : Int), .int .i64 (0 : Int), .slice none 0 0]) fun (p19 : Addr) =>
  bnd (wrs p19 0 [.int .i64 r18.1.1, .int .i64 r18.1.2.1, .int .i64 r18.1.2.2.1, .slice r18.1.2.2.2.a r18.1.2.2.2.len r18.1.2.2.2.cap]) fun _ =>
  bnd (ld .sl (Addr.add p2 3)) fun (v20 : Sl) =>
  bnd (
  cnd (cond (cond ((v20.len : Int) == (4 : Int)) (r1.2 == (0 : Int)) false) (r4.2 == (0 : Int)) false) (
  bnd (ld .sl (Addr.add p5 3)) fun (v21 : Sl) =>
  ret ((v21.len : Int) == (4 : Int))) (
  ret false)) fun (b22 : Bool) =>
  bnd (
  cnd b22 (
  bnd (ld .sl (Addr.add p5 3)) fun (v23 : Sl) =>
  bnd (ix 1 v23 (1 : Int)) fun (p24 : Addr) =>
  bnd (ld (.int .u32) p24) fun (v25 : Int) =>
  ret (v25 == (2147483648 : Int))) (
  ret false)) fun (b26 : Bool) =>
  bnd (
  cnd (r12.2 == (0 : Int)) (
  bnd (ld .sl (Addr.add p13 3)) fun (v27 : Sl) =>
  ret ((v27.len : Int) == (1 : Int))) (
  ret false)) fun (b28 : Bool) =>
  bnd (
  cnd b28 (
  bnd (ld .sl (Addr.add p13 3)) fun (v29 : Sl) =>
  bnd (ix 1 v29 (0 : Int)) fun (p30 : Addr) =>
  bnd (ld (.int .u32) p30) fun (v31 : Int) =>
  ret (v31 == (4227858432 : Int))) (
  ret false)) fun (b32 : Bool) =>
  bnd (
  cnd (cond b32 (r16.2 == (0 : Int)) false) (
  bnd (ld .sl (Addr.add p17 3)) fun (v33 : Sl) =>
  ret ((v33.len : Int) == (1 : Int))) (
  ret false)) fun (b34 : Bool) =>
  bnd (
  cnd b34 (
  bnd (ld .sl (Addr.add p17 3)) fun (v35 : Sl) =>
  bnd (ix 1 v35 (0 : Int)) fun (p36 : Addr) =>
  bnd (ld (.int .u32) p36) fun (v37 : Int) =>
  ret (v37 == (2852126720 : Int))) (
  ret false)) fun (b38 : Bool) =>
  ret (cond (cond (cond (cond (cond (cond (cond (cond b26 (r6.1 == (6 : Int)) false) (r6.2 == (0 : Int)) false) (r7.1 == (4294967281 : Int)) false) (r7.2 == (0 : Int)) false) b38 false) (r18.2 == (110 : Int)) false) (r8.2 == (111 : Int)) false) true false)
noncomputable def Af8_palaverlaw11_works : Ann := (.two .nil (.two .nil (.two .nil (.two .nil (.two .nil (.two .nil (.two .nil (.two .nil (.two .nil (.two .nil (.two .nil (.two .nil (.two .nil .nil)))))))))))))
theorem Cf8_palaverlaw11_works_ok : Cf8_palaverlaw11_works.Ok := mkC_ok mixed tysOk zerosOk eqsOk ⟨Sf10_bitblt_New, Sf18_bitblt_Put, Sf20_bitblt_Rule, Sf30_bitblt_Move, Sf31_bitblt_Fill, trivial⟩ trivial
theorem Ef8_palaverlaw11_works (x : Unit) : evF Cf8_palaverlaw11_works Try.f8 147 .unit .bool Af8_palaverlaw11_works x = f8_palaverlaw11_works := by kernel_rfl
theorem Sf8_palaverlaw11_works : SoundF Try.prog 8 ⟨.unit, .bool, fun _ => f8_palaverlaw11_works⟩ :=
  soundF_of Cf8_palaverlaw11_works_ok Try.func8 (by kernel_rfl) (by kernel_rfl) Ef8_palaverlaw11_works
noncomputable def Cf9_palaverlaw11_far : Ctx := mkC Try.prog tys zeros eqs [] []
/-- palaverpalaverlaw11.far -/
noncomputable def f9_palaverlaw11_far (x0 : (Int × (Int × (Int × Sl)))) (x1 : (Int × (Int × (Int × Sl)))) : M Bool :=
  bnd (newC 24 [.int .i64 x0.1, .int .i64 x0.2.1, .int .i64 x0.2.2.1, .slice x0.2.2.2.a x0.2.2.2.len x0.2.2.2.cap]) fun (p1 : Addr) =>
  bnd (newC 24 [.int .i64 x1.1, .int .i64 x1.2.1, .int .i64 x1.2.2.1, .slice x1.2.2.2.a x1.2.2.2.len x1.2.2.2.cap]) fun (p2 : Addr) =>
  bnd (ld .sl (Addr.add p1 3)) fun (v3 : Sl) =>
  bnd (
  cnd (decide ((v3.len : Int) > (2097152 : Int))) (
  ret true) (
  bnd (ld .sl (Addr.add p2 3)) fun (v4 : Sl) =>
  ret (decide ((v4.len : Int) > (2097152 : Int))))) fun (b5 : Bool) =>
  ret b5
noncomputable def Af9_palaverlaw11_far : Ann := (.two .nil (.two .nil .nil))
theorem Cf9_palaverlaw11_far_ok : Cf9_palaverlaw11_far.Ok := mkC_ok mixed tysOk zerosOk eqsOk trivial trivial
theorem Ef9_palaverlaw11_far (x : ((Int × (Int × (Int × Sl))) × (Int × (Int × (Int × Sl))))) : evF Cf9_palaverlaw11_far Try.f9 15 (.pair (.agg (.pair (.int .i64) (.pair (.int .i64) (.pair (.int .i64) .sl)))) (.agg (.pair (.int .i64) (.pair (.int .i64) (.pair (.int .i64) .sl))))) .bool Af9_palaverlaw11_far x = f9_palaverlaw11_far x.1 x.2 := by kernel_rfl
theorem Sf9_palaverlaw11_far : SoundF Try.prog 9 ⟨(.pair (.agg (.pair (.int .i64) (.pair (.int .i64) (.pair (.int .i64) .sl)))) (.agg (.pair (.int .i64) (.pair (.int .i64) (.pair (.int .i64) .sl))))), .bool, fun x => f9_palaverlaw11_far x.1 x.2⟩ :=
  soundF_of Cf9_palaverlaw11_far_ok Try.func9 (by kernel_rfl) (by kernel_rfl) Ef9_palaverlaw11_far
noncomputable def Cf35_palaverref11_Stride : Ctx := mkC Try.prog tys zeros eqs [] []
/-- palaverpalaverref11.Stride -/
noncomputable def f35_palaverref11_Stride (x0 : (Int × (Int × (Int × Sl)))) : M Int :=
  bnd (newC 24 [.int .i64 x0.1, .int .i64 x0.2.1, .int .i64 x0.2.2.1, .slice x0.2.2.2.a x0.2.2.2.len x0.2.2.2.cap]) fun (p1 : Addr) =>
  bnd (ld (.int .i64) (Addr.add p1 0)) fun (v2 : Int) =>
  bnd (ld (.int .i64) (Addr.add p1 2)) fun (v3 : Int) =>
  ret (IntKind.wrap .i64 (Int.tdiv (IntKind.wrap .i64 ((IntKind.wrap .i64 (v2 * v3)) + (31 : Int))) (32 : Int)))
noncomputable def Af35_palaverref11_Stride : Ann := (.two .nil (.two .nil .nil))
theorem Cf35_palaverref11_Stride_ok : Cf35_palaverref11_Stride.Ok := mkC_ok mixed tysOk zerosOk eqsOk trivial trivial
theorem Ef35_palaverref11_Stride (x : (Int × (Int × (Int × Sl)))) : evF Cf35_palaverref11_Stride Try.f35 10 (.agg (.pair (.int .i64) (.pair (.int .i64) (.pair (.int .i64) .sl)))) (.int .i64) Af35_palaverref11_Stride x = f35_palaverref11_Stride x := by kernel_rfl
theorem Sf35_palaverref11_Stride : SoundF Try.prog 35 ⟨(.agg (.pair (.int .i64) (.pair (.int .i64) (.pair (.int .i64) .sl)))), (.int .i64), fun x => f35_palaverref11_Stride x⟩ :=
  soundF_of Cf35_palaverref11_Stride_ok Try.func35 (by kernel_rfl) (by kernel_rfl) Ef35_palaverref11_Stride
noncomputable def Cf15_palaverref11_Check : Ctx := mkC Try.prog tys zeros eqs [(35, ⟨(.agg (.pair (.int .i64) (.pair (.int .i64) (.pair (.int .i64) .sl)))), (.int .i64), fun x => f35_palaverref11_Stride x⟩)] []
/-- palaverpalaverref11.Check -/
noncomputable def f15_palaverref11_Check (x0 : (Int × (Int × (Int × Sl)))) : M Int :=
  bnd (newC 24 [.int .i64 x0.1, .int .i64 x0.2.1, .int .i64 x0.2.2.1, .slice x0.2.2.2.a x0.2.2.2.len x0.2.2.2.cap]) fun (p1 : Addr) =>
  bnd (ld (.int .i64) (Addr.add p1 0)) fun (v2 : Int) =>
  bnd (
  cnd (decide (v2 < (0 : Int))) (
  ret true) (
  bnd (ld (.int .i64) (Addr.add p1 0)) fun (v3 : Int) =>
  ret (decide (v3 > (4096 : Int))))) fun (b4 : Bool) =>
  bnd (
  cnd b4 (
  ret true) (
  bnd (ld (.int .i64) (Addr.add p1 1)) fun (v5 : Int) =>
  ret (decide (v5 < (0 : Int))))) fun (b6 : Bool) =>
  bnd (
  cnd b6 (
  ret true) (
  bnd (ld (.int .i64) (Addr.add p1 1)) fun (v7 : Int) =>
  ret (decide (v7 > (4096 : Int))))) fun (b8 : Bool) =>
  cnd b8 (
  ret (110 : Int)) (
  bnd (ld (.int .i64) (Addr.add p1 2)) fun (v9 : Int) =>
  bnd (
  cnd (v9 != (1 : Int)) (
  bnd (ld (.int .i64) (Addr.add p1 2)) fun (v10 : Int) =>
  ret (v10 != (2 : Int))) (
  ret false)) fun (b11 : Bool) =>
  bnd (
  cnd b11 (
  bnd (ld (.int .i64) (Addr.add p1 2)) fun (v12 : Int) =>
  ret (v12 != (4 : Int))) (
  ret false)) fun (b13 : Bool) =>
  bnd (
  cnd b13 (
  bnd (ld (.int .i64) (Addr.add p1 2)) fun (v14 : Int) =>
  ret (v14 != (8 : Int))) (
  ret false)) fun (b15 : Bool) =>
  bnd (
  cnd b15 (
  bnd (ld (.int .i64) (Addr.add p1 2)) fun (v16 : Int) =>
  ret (v16 != (16 : Int))) (
  ret false)) fun (b17 : Bool) =>
  bnd (
  cnd b17 (
  bnd (ld (.int .i64) (Addr.add p1 2)) fun (v18 : Int) =>
  ret (v18 != (32 : Int))) (
  ret false)) fun (b19 : Bool) =>
  cnd b19 (
  ret (110 : Int)) (
  bnd (
  bnd drawM fun _ =>
  bnd (ld (.agg (.pair (.int .i64) (.pair (.int .i64) (.pair (.int .i64) .sl)))) p1) fun (v21 : (Int × (Int × (Int × Sl)))) =>
  bnd (ld (.int .i64) (Addr.add p1 1)) fun (v22 : Int) =>
  bnd (f35_palaverref11_Stride v21) fun (r23 : Int) =>
  bnd (
  bnd (chk (.int .i64) (Addr.add p1 1) v22) fun _ =>
  ret ()) fun _ =>
  cnd (decide ((IntKind.wrap .i64 (r23 * v22)) > (1048576 : Int))) (
  bnd (ret ()) fun _ =>
  ret true) (
  bnd (ld .sl (Addr.add p1 3)) fun (v24 : Sl) =>
  bnd (ld (.agg (.pair (.int .i64) (.pair (.int .i64) (.pair (.int .i64) .sl)))) p1) fun (v25 : (Int × (Int × (Int × Sl)))) =>
  bnd (ld (.int .i64) (Addr.add p1 1)) fun (v26 : Int) =>
  bnd (f35_palaverref11_Stride v25) fun (r27 : Int) =>
  bnd (
  bnd (chk (.int .i64) (Addr.add p1 1) v26) fun _ =>
  bnd (chk .sl (Addr.add p1 3) v24) fun _ =>
  ret ()) fun _ =>
  ret ((v24.len : Int) != (IntKind.wrap .i64 (r27 * v26))))) fun (s20 : Bool) =>
  cnd s20 (
  ret (110 : Int)) (
  ret (0 : Int))))
noncomputable def Af15_palaverref11_Check : Ann := (.two .nil (.two (.two .nil (.two (.two .nil .nil) .nil)) (.two (.two .nil (.two (.two .nil .nil) .nil)) (.two (.two (.join [(65, .bool)] [49, 50, 51, 52, 53, 54, 55, 56, 57, 58, 59, 60, 61, 62, 63, 64] false (.draw [.o 0, .o 2, .o 3, .o 1, .o 4, .o 5, .o 6, .s 55, .o 7, .o 8, .o 9, .o 10, .o 12, .o 13, .o 11, .o 14, .o 15, .o 16])) (.two (.two .nil .nil) .nil)) (.two .nil .nil)))))
theorem Cf15_palaverref11_Check_ok : Cf15_palaverref11_Check.Ok := mkC_ok mixed tysOk zerosOk eqsOk ⟨Sf35_palaverref11_Stride, trivial⟩ trivial
theorem Ef15_palaverref11_Check (x : (Int × (Int × (Int × Sl)))) : evF Cf15_palaverref11_Check Try.f15 66 (.agg (.pair (.int .i64) (.pair (.int .i64) (.pair (.int .i64) .sl)))) (.int .i64) Af15_palaverref11_Check x = f15_palaverref11_Check x := by kernel_rfl
theorem Sf15_palaverref11_Check : SoundF Try.prog 15 ⟨(.agg (.pair (.int .i64) (.pair (.int .i64) (.pair (.int .i64) .sl)))), (.int .i64), fun x => f15_palaverref11_Check x⟩ :=
  soundF_of Cf15_palaverref11_Check_ok Try.func15 (by kernel_rfl) (by kernel_rfl) Ef15_palaverref11_Check
noncomputable def Cf11_palaverref11_New : Ctx := mkC Try.prog tys zeros eqs [(15, ⟨(.agg (.pair (.int .i64) (.pair (.int .i64) (.pair (.int .i64) .sl)))), (.int .i64), fun x => f15_palaverref11_Check x⟩), (35, ⟨(.agg (.pair (.int .i64) (.pair (.int .i64) (.pair (.int .i64) .sl)))), (.int .i64), fun x => f35_palaverref11_Stride x⟩)] []
/-- palaverpalaverref11.New -/
noncomputable def f11_palaverref11_New (x0 : Int) (x1 : Int) (x2 : Int) : M ((Int × (Int × (Int × Sl))) × Int) :=
  bnd (newC 24 [.int .i64 (0 : Int), .int .i64 (0 : Int), .int .i64 (0 : Int), .slice none 0 0]) fun (p1 : Addr) =>
  bnd (newC 24 [.int .i64 (0 : Int), .int .i64 (0 : Int), .int .i64 (0 : Int), .slice none 0 0]) fun (p2 : Addr) =>
  bnd (wrs p2 0 [.int .i64 x0, .int .i64 x1, .int .i64 x2, .slice none 0 0]) fun _ =>
  bnd (
  cnd (cond (cond (cond (cond (cond (decide (x0 < (0 : Int))) true (decide (x0 > (4096 : Int)))) true (decide (x1 < (0 : Int)))) true (decide (x1 > (4096 : Int)))) true (decide (x2 < (1 : Int)))) true (decide (x2 > (32 : Int)))) (
  ret true) (
  bnd (ld (.agg (.pair (.int .i64) (.pair (.int .i64) (.pair (.int .i64) .sl)))) p2) fun (v3 : (Int × (Int × (Int × Sl)))) =>
  bnd (f35_palaverref11_Stride v3) fun (r4 : Int) =>
  ret (decide ((IntKind.wrap .i64 (r4 * x1)) > (1048576 : Int))))) fun (b5 : Bool) =>
  cnd b5 (
  bnd (wrs p1 0 [.int .i64 (0 : Int), .int .i64 (0 : Int), .int .i64 (0 : Int), .slice none 0 0]) fun _ =>
  bnd (ld (.agg (.pair (.int .i64) (.pair (.int .i64) (.pair (.int .i64) .sl)))) p1) fun (v6 : (Int × (Int × (Int × Sl)))) =>
  ret (v6, (110 : Int))) (
  bnd (ld (.agg (.pair (.int .i64) (.pair (.int .i64) (.pair (.int .i64) .sl)))) p2) fun (v7 : (Int × (Int × (Int × Sl)))) =>
  bnd (f35_palaverref11_Stride v7) fun (r8 : Int) =>
  bnd (runV Try.prog .sl (Instr.makeSlice 22 (.int .i64 (IntKind.wrap .i64 (r8 * x1))) (.int .i64 (IntKind.wrap .i64 (r8 * x1))))) fun (v9 : Sl) =>
  bnd (wrs (Addr.add p2 3) 0 [.slice v9.a v9.len v9.cap]) fun _ =>
  bnd (ld (.agg (.pair (.int .i64) (.pair (.int .i64) (.pair (.int .i64) .sl)))) p2) fun (v10 : (Int × (Int × (Int × Sl)))) =>
  bnd (f15_palaverref11_Check v10) fun (r11 : Int) =>
  cnd (r11 != (0 : Int)) (
  bnd (wrs p1 0 [.int .i64 (0 : Int), .int .i64 (0 : Int), .int .i64 (0 : Int), .slice none 0 0]) fun _ =>
  bnd (ld (.agg (.pair (.int .i64) (.pair (.int .i64) (.pair (.int .i64) .sl)))) p1) fun (v12 : (Int × (Int × (Int × Sl)))) =>
  ret (v12, r11)) (
  bnd (ld (.agg (.pair (.int .i64) (.pair (.int .i64) (.pair (.int .i64) .sl)))) p2) fun (v13 : (Int × (Int × (Int × Sl)))) =>
  bnd (wrs p1 0 [.int .i64 v13.1, .int .i64 v13.2.1, .int .i64 v13.2.2.1, .slice v13.2.2.2.a v13.2.2.2.len v13.2.2.2.cap]) fun _ =>
  bnd (ld (.agg (.pair (.int .i64) (.pair (.int .i64) (.pair (.int .i64) .sl)))) p1) fun (v14 : (Int × (Int × (Int × Sl)))) =>
  ret (v14, (0 : Int))))
noncomputable def Af11_palaverref11_New : Ann := (.two .nil (.two .nil (.two (.two .nil (.two (.two .nil .nil) .nil)) (.two .nil (.two .nil (.two (.two .nil (.two (.two .nil .nil) .nil)) (.two .nil .nil)))))))
theorem Cf11_palaverref11_New_ok : Cf11_palaverref11_New.Ok := mkC_ok mixed tysOk zerosOk eqsOk ⟨Sf15_palaverref11_Check, Sf35_palaverref11_Stride, trivial⟩ trivial
theorem Ef11_palaverref11_New (x : (Int × (Int × Int))) : evF Cf11_palaverref11_New Try.f11 57 (.pair (.int .i64) (.pair (.int .i64) (.int .i64))) (.tup (.pair (.agg (.pair (.int .i64) (.pair (.int .i64) (.pair (.int .i64) .sl)))) (.int .i64))) Af11_palaverref11_New x = f11_palaverref11_New x.1 x.2.1 x.2.2 := by kernel_rfl
theorem Sf11_palaverref11_New : SoundF Try.prog 11 ⟨(.pair (.int .i64) (.pair (.int .i64) (.int .i64))), (.tup (.pair (.agg (.pair (.int .i64) (.pair (.int .i64) (.pair (.int .i64) .sl)))) (.int .i64))), fun x => f11_palaverref11_New x.1 x.2.1 x.2.2⟩ :=
  soundF_of Cf11_palaverref11_New_ok Try.func11 (by kernel_rfl) (by kernel_rfl) Ef11_palaverref11_New
noncomputable def Cf27_palaverref00_SameBits : Ctx := mkC Try.prog tys zeros eqs [] []
/-- palaverpalaverref00.SameBits -/
noncomputable def f27_palaverref00_SameBits (x0 : Sl) (x1 : Sl) : M Bool :=
  cnd ((x0.len : Int) != (x1.len : Int)) (
  ret false) (
  loopM (fun (s1 : Int) =>
  cnd (decide (s1 < (x0.len : Int))) (
  bnd drawM fun _ =>
  bnd (ix 1 x0 s1) fun (p2 : Addr) =>
  bnd (ld (.int .u32) p2) fun (v3 : Int) =>
  bnd (ix 1 x1 s1) fun (p4 : Addr) =>
  bnd (ld (.int .u32) p4) fun (v5 : Int) =>
  cnd (v3 != v5) (
  ret (Sum.inr false)) (
  ret (Sum.inl (IntKind.wrap .i64 (s1 + (1 : Int)))))) (
  ret (Sum.inr true))) (0 : Int))
noncomputable def Af27_palaverref00_SameBits : Ann := (.two .nil (.two (.two .nil (.two (.two .nil .nil) .nil)) (.two (.two .nil (.one (.loop [(5, (.int .i64))] [4, 11, 12, 13, 14, 15, 16, 17, 18, 19, 20, 21, 22, 23, 24, 25] (.two (.two .nil (.two .nil .nil)) (.two (.one (.two .nil (.two (.two .nil .nil) .nil))) .nil))))) (.two .nil .nil))))
theorem Cf27_palaverref00_SameBits_ok : Cf27_palaverref00_SameBits.Ok := mkC_ok mixed tysOk zerosOk eqsOk trivial trivial
theorem Ef27_palaverref00_SameBits (x : (Sl × Sl)) : evF Cf27_palaverref00_SameBits Try.f27 26 (.pair .sl .sl) .bool Af27_palaverref00_SameBits x = f27_palaverref00_SameBits x.1 x.2 := by kernel_rfl
theorem Sf27_palaverref00_SameBits : SoundF Try.prog 27 ⟨(.pair .sl .sl), .bool, fun x => f27_palaverref00_SameBits x.1 x.2⟩ :=
  soundF_of Cf27_palaverref00_SameBits_ok Try.func27 (by kernel_rfl) (by kernel_rfl) Ef27_palaverref00_SameBits
noncomputable def Cf12_palaverlaw11_same : Ctx := mkC Try.prog tys zeros eqs [(27, ⟨(.pair .sl .sl), .bool, fun x => f27_palaverref00_SameBits x.1 x.2⟩)] []
/-- palaverpalaverlaw11.same -/
noncomputable def f12_palaverlaw11_same (x0 : (Int × (Int × (Int × Sl)))) (x1 : (Int × (Int × (Int × Sl)))) : M Bool :=
  bnd (newC 24 [.int .i64 x0.1, .int .i64 x0.2.1, .int .i64 x0.2.2.1, .slice x0.2.2.2.a x0.2.2.2.len x0.2.2.2.cap]) fun (p1 : Addr) =>
  bnd (newC 24 [.int .i64 x1.1, .int .i64 x1.2.1, .int .i64 x1.2.2.1, .slice x1.2.2.2.a x1.2.2.2.len x1.2.2.2.cap]) fun (p2 : Addr) =>
  bnd (ld .sl (Addr.add p1 3)) fun (v3 : Sl) =>
  bnd (ld .sl (Addr.add p2 3)) fun (v4 : Sl) =>
  bnd (f27_palaverref00_SameBits v3 v4) fun (r5 : Bool) =>
  bnd (
  cnd r5 (
  bnd (ld (.int .i64) (Addr.add p1 0)) fun (v6 : Int) =>
  bnd (ld (.int .i64) (Addr.add p2 0)) fun (v7 : Int) =>
  ret (v6 == v7)) (
  ret false)) fun (b8 : Bool) =>
  bnd (
  cnd b8 (
  bnd (ld (.int .i64) (Addr.add p1 1)) fun (v9 : Int) =>
  bnd (ld (.int .i64) (Addr.add p2 1)) fun (v10 : Int) =>
  ret (v9 == v10)) (
  ret false)) fun (b11 : Bool) =>
  bnd (
  cnd b11 (
  bnd (ld (.int .i64) (Addr.add p1 2)) fun (v12 : Int) =>
  bnd (ld (.int .i64) (Addr.add p2 2)) fun (v13 : Int) =>
  ret (v12 == v13)) (
  ret false)) fun (b14 : Bool) =>
  ret b14
noncomputable def Af12_palaverlaw11_same : Ann := (.two .nil (.two .nil (.two .nil .nil)))
theorem Cf12_palaverlaw11_same_ok : Cf12_palaverlaw11_same.Ok := mkC_ok mixed tysOk zerosOk eqsOk ⟨Sf27_palaverref00_SameBits, trivial⟩ trivial
theorem Ef12_palaverlaw11_same (x : ((Int × (Int × (Int × Sl))) × (Int × (Int × (Int × Sl))))) : evF Cf12_palaverlaw11_same Try.f12 33 (.pair (.agg (.pair (.int .i64) (.pair (.int .i64) (.pair (.int .i64) .sl)))) (.agg (.pair (.int .i64) (.pair (.int .i64) (.pair (.int .i64) .sl))))) .bool Af12_palaverlaw11_same x = f12_palaverlaw11_same x.1 x.2 := by kernel_rfl
theorem Sf12_palaverlaw11_same : SoundF Try.prog 12 ⟨(.pair (.agg (.pair (.int .i64) (.pair (.int .i64) (.pair (.int .i64) .sl)))) (.agg (.pair (.int .i64) (.pair (.int .i64) (.pair (.int .i64) .sl))))), .bool, fun x => f12_palaverlaw11_same x.1 x.2⟩ :=
  soundF_of Cf12_palaverlaw11_same_ok Try.func12 (by kernel_rfl) (by kernel_rfl) Ef12_palaverlaw11_same
noncomputable def Cf13_palaverref00_LentBits : Ctx := mkC Try.prog tys zeros eqs [] []
/-- palaverpalaverref00.LentBits -/
noncomputable def f13_palaverref00_LentBits (x0 : Sl) : M Sl :=
  bnd (runV Try.prog .sl (Instr.makeSlice 22 (.int .i64 (0 : Int)) (.int .i64 (IntKind.wrap .i64 ((x0.len : Int) + (2 : Int)))))) fun (v1 : Sl) =>
  bnd (runV Try.prog .sl (Builtin.append_ #[22, 22] 22 #[.slice v1.a v1.len v1.cap, .slice x0.a x0.len x0.cap])) fun (v2 : Sl) =>
  bnd (runV Try.prog .sl (Instr.buildSlice 22 2 #[(0, .int .u32 (8999229 : Int)), (1, .int .u32 (8999228 : Int))])) fun (v3 : Sl) =>
  bnd (runV Try.prog .sl (Builtin.append_ #[22, 22] 22 #[.slice v2.a v2.len v2.cap, .slice v3.a v3.len v3.cap])) fun (v4 : Sl) =>
  bnd (slc 1 v4 none (some (x0.len : Int)) none) fun (v5 : Sl) =>
  ret v5
noncomputable def Af13_palaverref00_LentBits : Ann := (.two .nil (.two .nil (.two .nil (.two .nil .nil))))
theorem Cf13_palaverref00_LentBits_ok : Cf13_palaverref00_LentBits.Ok := mkC_ok mixed tysOk zerosOk eqsOk trivial trivial
theorem Ef13_palaverref00_LentBits (x : Sl) : evF Cf13_palaverref00_LentBits Try.f13 18 .sl .sl Af13_palaverref00_LentBits x = f13_palaverref00_LentBits x := by kernel_rfl
theorem Sf13_palaverref00_LentBits : SoundF Try.prog 13 ⟨.sl, .sl, fun x => f13_palaverref00_LentBits x⟩ :=
  soundF_of Cf13_palaverref00_LentBits_ok Try.func13 (by kernel_rfl) (by kernel_rfl) Ef13_palaverref00_LentBits
noncomputable def Cf41_palaverref11_all : Ctx := mkC Try.prog tys zeros eqs [] []
/-- palaverpalaverref11.all -/
noncomputable def f41_palaverref11_all (x0 : Int) : M Int :=
  loopM (fun (s1 : (Int × Int)) =>
  cnd (decide (s1.2 < x0)) (
  ret (Sum.inl ((IntKind.wrap .u64 (s1.1 * (2 : Int))), (IntKind.wrap .i64 (s1.2 + (1 : Int)))))) (
  ret (Sum.inr (IntKind.wrap .u32 (IntKind.wrap .u64 (s1.1 - (1 : Int))))))) ((1 : Int), (0 : Int))
noncomputable def Af41_palaverref11_all : Ann := (.two .nil (.two .nil (.two (.two .nil (.one (.loop [(3, (.int .u64)), (4, (.int .i64))] [5, 6, 7, 8, 9, 10, 11] (.two (.two .nil (.two .nil .nil)) (.two (.one .nil) .nil))))) (.two .nil .nil))))
theorem Cf41_palaverref11_all_ok : Cf41_palaverref11_all.Ok := mkC_ok mixed tysOk zerosOk eqsOk trivial trivial
theorem Ef41_palaverref11_all (x : Int) : evF Cf41_palaverref11_all Try.f41 15 (.int .i64) (.int .u32) Af41_palaverref11_all x = f41_palaverref11_all x := by kernel_rfl
theorem Sf41_palaverref11_all : SoundF Try.prog 41 ⟨(.int .i64), (.int .u32), fun x => f41_palaverref11_all x⟩ :=
  soundF_of Cf41_palaverref11_all_ok Try.func41 (by kernel_rfl) (by kernel_rfl) Ef41_palaverref11_all
noncomputable def Cf39_palaverref11_get : Ctx := mkC Try.prog tys zeros eqs [(35, ⟨(.agg (.pair (.int .i64) (.pair (.int .i64) (.pair (.int .i64) .sl)))), (.int .i64), fun x => f35_palaverref11_Stride x⟩), (41, ⟨(.int .i64), (.int .u32), fun x => f41_palaverref11_all x⟩)] []
/-- palaverpalaverref11.get -/
noncomputable def f39_palaverref11_get (x0 : (Int × (Int × (Int × Sl)))) (x1 : Int) (x2 : Int) : M Int :=
  bnd (newC 24 [.int .i64 x0.1, .int .i64 x0.2.1, .int .i64 x0.2.2.1, .slice x0.2.2.2.a x0.2.2.2.len x0.2.2.2.cap]) fun (p1 : Addr) =>
  bnd (ld (.int .i64) (Addr.add p1 2)) fun (v2 : Int) =>
  bnd drawM fun _ =>
  bnd (ld .sl (Addr.add p1 3)) fun (v3 : Sl) =>
  bnd (ld (.agg (.pair (.int .i64) (.pair (.int .i64) (.pair (.int .i64) .sl)))) p1) fun (v4 : (Int × (Int × (Int × Sl)))) =>
  bnd (f35_palaverref11_Stride v4) fun (r5 : Int) =>
  bnd (
  bnd (chk .sl (Addr.add p1 3) v3) fun _ =>
  ret ()) fun _ =>
  bnd (ix 1 v3 (IntKind.wrap .i64 ((IntKind.wrap .i64 (x2 * r5)) + (IntKind.wrap .i64 (Int.tdiv (IntKind.wrap .i64 (x1 * v2)) (32 : Int)))))) fun (p6 : Addr) =>
  bnd (ld (.int .u32) p6) fun (v7 : Int) =>
  bnd drawM fun _ =>
  bnd (ld (.int .i64) (Addr.add p1 2)) fun (v8 : Int) =>
  bnd (cnt (IntKind.wrap .u64 (IntKind.wrap .i64 ((IntKind.wrap .i64 ((32 : Int) - (Int.tmod (IntKind.wrap .i64 (x1 * v2)) (32 : Int)))) - v8)))) fun (c9 : Nat) =>
  bnd (ld (.int .i64) (Addr.add p1 2)) fun (v10 : Int) =>
  bnd (f41_palaverref11_all v10) fun (r11 : Int) =>
  bnd (
  bnd (chk (.int .i64) (Addr.add p1 2) v8) fun _ =>
  ret ()) fun _ =>
  ret (bAnd .u32 (shrI .u32 v7 c9) r11)
noncomputable def Af39_palaverref11_get : Ann := (.two .nil (.two .nil (.two (.draw [.o 0, .o 1, .o 2, .o 3, .o 6, .o 7, .o 4, .o 5, .o 8, .o 9, .o 10, .o 11]) (.two (.draw [.o 0, .o 1, .o 2, .o 3, .o 4, .o 5, .o 6, .o 7, .o 8, .o 9, .o 10, .o 11, .o 12, .o 13]) .nil))))
theorem Cf39_palaverref11_get_ok : Cf39_palaverref11_get.Ok := mkC_ok mixed tysOk zerosOk eqsOk ⟨Sf35_palaverref11_Stride, Sf41_palaverref11_all, trivial⟩ trivial
theorem Ef39_palaverref11_get (x : ((Int × (Int × (Int × Sl))) × (Int × Int))) : evF Cf39_palaverref11_get Try.f39 37 (.pair (.agg (.pair (.int .i64) (.pair (.int .i64) (.pair (.int .i64) .sl)))) (.pair (.int .i64) (.int .i64))) (.int .u32) Af39_palaverref11_get x = f39_palaverref11_get x.1 x.2.1 x.2.2 := by kernel_rfl
theorem Sf39_palaverref11_get : SoundF Try.prog 39 ⟨(.pair (.agg (.pair (.int .i64) (.pair (.int .i64) (.pair (.int .i64) .sl)))) (.pair (.int .i64) (.int .i64))), (.int .u32), fun x => f39_palaverref11_get x.1 x.2.1 x.2.2⟩ :=
  soundF_of Cf39_palaverref11_get_ok Try.func39 (by kernel_rfl) (by kernel_rfl) Ef39_palaverref11_get
noncomputable def Cf17_palaverref11_Pixel : Ctx := mkC Try.prog tys zeros eqs [(15, ⟨(.agg (.pair (.int .i64) (.pair (.int .i64) (.pair (.int .i64) .sl)))), (.int .i64), fun x => f15_palaverref11_Check x⟩), (39, ⟨(.pair (.agg (.pair (.int .i64) (.pair (.int .i64) (.pair (.int .i64) .sl)))) (.pair (.int .i64) (.int .i64))), (.int .u32), fun x => f39_palaverref11_get x.1 x.2.1 x.2.2⟩)] []
/-- palaverpalaverref11.Pixel -/
noncomputable def f17_palaverref11_Pixel (x0 : (Int × (Int × (Int × Sl)))) (x1 : Int) (x2 : Int) : M (Int × Int) :=
  bnd (newC 24 [.int .i64 x0.1, .int .i64 x0.2.1, .int .i64 x0.2.2.1, .slice x0.2.2.2.a x0.2.2.2.len x0.2.2.2.cap]) fun (p1 : Addr) =>
  bnd (ld (.agg (.pair (.int .i64) (.pair (.int .i64) (.pair (.int .i64) .sl)))) p1) fun (v2 : (Int × (Int × (Int × Sl)))) =>
  bnd (f15_palaverref11_Check v2) fun (r3 : Int) =>
  cnd (r3 != (0 : Int)) (
  ret ((0 : Int), r3)) (
  bnd (
  cnd (decide (x1 < (0 : Int))) (
  ret true) (
  bnd (ld (.int .i64) (Addr.add p1 0)) fun (v4 : Int) =>
  ret (decide (x1 ≥ v4)))) fun (b5 : Bool) =>
  bnd (
  cnd (cond b5 true (decide (x2 < (0 : Int)))) (
  ret true) (
  bnd (ld (.int .i64) (Addr.add p1 1)) fun (v6 : Int) =>
  ret (decide (x2 ≥ v6)))) fun (b7 : Bool) =>
  cnd b7 (
  ret ((0 : Int), (1 : Int))) (
  bnd (ld (.agg (.pair (.int .i64) (.pair (.int .i64) (.pair (.int .i64) .sl)))) p1) fun (v8 : (Int × (Int × (Int × Sl)))) =>
  bnd (f39_palaverref11_get v8 x1 x2) fun (r9 : Int) =>
  ret (r9, (0 : Int))))
noncomputable def Af17_palaverref11_Pixel : Ann := (.two .nil (.two .nil (.two (.two .nil (.two (.two .nil .nil) .nil)) (.two (.two .nil (.two (.two .nil .nil) .nil)) (.two .nil .nil)))))
theorem Cf17_palaverref11_Pixel_ok : Cf17_palaverref11_Pixel.Ok := mkC_ok mixed tysOk zerosOk eqsOk ⟨Sf15_palaverref11_Check, Sf39_palaverref11_get, trivial⟩ trivial
theorem Ef17_palaverref11_Pixel (x : ((Int × (Int × (Int × Sl))) × (Int × Int))) : evF Cf17_palaverref11_Pixel Try.f17 36 (.pair (.agg (.pair (.int .i64) (.pair (.int .i64) (.pair (.int .i64) .sl)))) (.pair (.int .i64) (.int .i64))) (.tup (.pair (.int .u32) (.int .i64))) Af17_palaverref11_Pixel x = f17_palaverref11_Pixel x.1 x.2.1 x.2.2 := by kernel_rfl
theorem Sf17_palaverref11_Pixel : SoundF Try.prog 17 ⟨(.pair (.agg (.pair (.int .i64) (.pair (.int .i64) (.pair (.int .i64) .sl)))) (.pair (.int .i64) (.int .i64))), (.tup (.pair (.int .u32) (.int .i64))), fun x => f17_palaverref11_Pixel x.1 x.2.1 x.2.2⟩ :=
  soundF_of Cf17_palaverref11_Pixel_ok Try.func17 (by kernel_rfl) (by kernel_rfl) Ef17_palaverref11_Pixel
noncomputable def Cf42_palaverref11_like : Ctx := mkC Try.prog tys zeros eqs [] []
/-- palaverpalaverref11.like -/
noncomputable def f42_palaverref11_like (x0 : (Int × (Int × (Int × Sl)))) : M (Int × (Int × (Int × Sl))) :=
  bnd (newC 24 [.int .i64 x0.1, .int .i64 x0.2.1, .int .i64 x0.2.2.1, .slice x0.2.2.2.a x0.2.2.2.len x0.2.2.2.cap]) fun (p1 : Addr) =>
  bnd (newC 24 [.int .i64 (0 : Int), .int .i64 (0 : Int), .int .i64 (0 : Int), .slice none 0 0]) fun (p2 : Addr) =>
  bnd (ld .sl (Addr.add p1 3)) fun (v3 : Sl) =>
  bnd (runV Try.prog .sl (Builtin.append_ #[22, 22] 22 #[.slice none 0 0, .slice v3.a v3.len v3.cap])) fun (v4 : Sl) =>
  bnd (wrs (Addr.add p1 3) 0 [.slice v4.a v4.len v4.cap]) fun _ =>
  bnd (ld (.agg (.pair (.int .i64) (.pair (.int .i64) (.pair (.int .i64) .sl)))) p1) fun (v5 : (Int × (Int × (Int × Sl)))) =>
  bnd (wrs p2 0 [.int .i64 v5.1, .int .i64 v5.2.1, .int .i64 v5.2.2.1, .slice v5.2.2.2.a v5.2.2.2.len v5.2.2.2.cap]) fun _ =>
  bnd (ld (.agg (.pair (.int .i64) (.pair (.int .i64) (.pair (.int .i64) .sl)))) p2) fun (v6 : (Int × (Int × (Int × Sl)))) =>
  ret v6
noncomputable def Af42_palaverref11_like : Ann := (.two .nil (.two .nil (.two .nil (.two .nil (.two .nil .nil)))))
theorem Cf42_palaverref11_like_ok : Cf42_palaverref11_like.Ok := mkC_ok mixed tysOk zerosOk eqsOk trivial trivial
theorem Ef42_palaverref11_like (x : (Int × (Int × (Int × Sl)))) : evF Cf42_palaverref11_like Try.f42 11 (.agg (.pair (.int .i64) (.pair (.int .i64) (.pair (.int .i64) .sl)))) (.agg (.pair (.int .i64) (.pair (.int .i64) (.pair (.int .i64) .sl)))) Af42_palaverref11_like x = f42_palaverref11_like x := by kernel_rfl
theorem Sf42_palaverref11_like : SoundF Try.prog 42 ⟨(.agg (.pair (.int .i64) (.pair (.int .i64) (.pair (.int .i64) .sl)))), (.agg (.pair (.int .i64) (.pair (.int .i64) (.pair (.int .i64) .sl)))), fun x => f42_palaverref11_like x⟩ :=
  soundF_of Cf42_palaverref11_like_ok Try.func42 (by kernel_rfl) (by kernel_rfl) Ef42_palaverref11_like
noncomputable def Cf43_palaverref11_put : Ctx := mkC Try.prog tys zeros eqs [(35, ⟨(.agg (.pair (.int .i64) (.pair (.int .i64) (.pair (.int .i64) .sl)))), (.int .i64), fun x => f35_palaverref11_Stride x⟩), (39, ⟨(.pair (.agg (.pair (.int .i64) (.pair (.int .i64) (.pair (.int .i64) .sl)))) (.pair (.int .i64) (.int .i64))), (.int .u32), fun x => f39_palaverref11_get x.1 x.2.1 x.2.2⟩)] []
/-- palaverpalaverref11.put -/
noncomputable def f43_palaverref11_put (x0 : (Int × (Int × (Int × Sl)))) (x1 : Int) (x2 : Int) (x3 : Int) : M Unit :=
  bnd (newC 24 [.int .i64 x0.1, .int .i64 x0.2.1, .int .i64 x0.2.2.1, .slice x0.2.2.2.a x0.2.2.2.len x0.2.2.2.cap]) fun (p1 : Addr) =>
  bnd (ld (.int .i64) (Addr.add p1 2)) fun (v2 : Int) =>
  bnd (ld (.int .i64) (Addr.add p1 2)) fun (v3 : Int) =>
  bnd (ld (.agg (.pair (.int .i64) (.pair (.int .i64) (.pair (.int .i64) .sl)))) p1) fun (v4 : (Int × (Int × (Int × Sl)))) =>
  bnd (f35_palaverref11_Stride v4) fun (r5 : Int) =>
  bnd drawM fun _ =>
  bnd (ld .sl (Addr.add p1 3)) fun (v6 : Sl) =>
  bnd (ld .sl (Addr.add p1 3)) fun (v7 : Sl) =>
  bnd (ix 1 v7 (IntKind.wrap .i64 ((IntKind.wrap .i64 (x2 * r5)) + (IntKind.wrap .i64 (Int.tdiv (IntKind.wrap .i64 (x1 * v2)) (32 : Int)))))) fun (p8 : Addr) =>
  bnd (ld (.int .u32) p8) fun (v9 : Int) =>
  bnd (ld (.agg (.pair (.int .i64) (.pair (.int .i64) (.pair (.int .i64) .sl)))) p1) fun (v10 : (Int × (Int × (Int × Sl)))) =>
  bnd (cnt (IntKind.wrap .u64 (IntKind.wrap .i64 ((IntKind.wrap .i64 ((32 : Int) - (Int.tmod (IntKind.wrap .i64 (x1 * v2)) (32 : Int)))) - v3)))) fun (c11 : Nat) =>
  bnd (f39_palaverref11_get v10 x1 x2) fun (r12 : Int) =>
  bnd (
  bnd (chk (.int .u32) p8 v9) fun _ =>
  bnd (chk .sl (Addr.add p1 3) v7) fun _ =>
  bnd (chk .sl (Addr.add p1 3) v6) fun _ =>
  ret ()) fun _ =>
  bnd (cnt (IntKind.wrap .u64 (IntKind.wrap .i64 ((IntKind.wrap .i64 ((32 : Int) - (Int.tmod (IntKind.wrap .i64 (x1 * v2)) (32 : Int)))) - v3)))) fun (c13 : Nat) =>
  bnd (ix 1 v6 (IntKind.wrap .i64 ((IntKind.wrap .i64 (x2 * r5)) + (IntKind.wrap .i64 (Int.tdiv (IntKind.wrap .i64 (x1 * v2)) (32 : Int)))))) fun (p14 : Addr) =>
  bnd (wrs p14 0 [.int .u32 (IntKind.wrap .u32 ((IntKind.wrap .u32 (v9 - (shlI .u32 r12 c13))) + (shlI .u32 x3 c11)))]) fun _ =>
  bnd (ret ()) fun _ =>
  ret ()
noncomputable def Af43_palaverref11_put : Ann := (.two .nil (.two .nil (.two .nil (.two .nil (.draw [.o 0, .o 1, .o 2, .o 3, .o 4, .o 5, .o 6, .o 7, .o 8, .o 9, .o 10, .o 12, .o 15, .o 16, .o 17, .o 11, .o 13, .o 14, .o 18, .o 19, .o 20])))))
theorem Cf43_palaverref11_put_ok : Cf43_palaverref11_put.Ok := mkC_ok mixed tysOk zerosOk eqsOk ⟨Sf35_palaverref11_Stride, Sf39_palaverref11_get, trivial⟩ trivial
theorem Ef43_palaverref11_put (x : ((Int × (Int × (Int × Sl))) × (Int × (Int × Int)))) : evF Cf43_palaverref11_put Try.f43 49 (.pair (.agg (.pair (.int .i64) (.pair (.int .i64) (.pair (.int .i64) .sl)))) (.pair (.int .i64) (.pair (.int .i64) (.int .u32)))) (.tup .unit) Af43_palaverref11_put x = f43_palaverref11_put x.1 x.2.1 x.2.2.1 x.2.2.2 := by kernel_rfl
theorem Sf43_palaverref11_put : SoundF Try.prog 43 ⟨(.pair (.agg (.pair (.int .i64) (.pair (.int .i64) (.pair (.int .i64) .sl)))) (.pair (.int .i64) (.pair (.int .i64) (.int .u32)))), (.tup .unit), fun x => f43_palaverref11_put x.1 x.2.1 x.2.2.1 x.2.2.2⟩ :=
  soundF_of Cf43_palaverref11_put_ok Try.func43 (by kernel_rfl) (by kernel_rfl) Ef43_palaverref11_put
noncomputable def Cf19_palaverref11_Put : Ctx := mkC Try.prog tys zeros eqs [(17, ⟨(.pair (.agg (.pair (.int .i64) (.pair (.int .i64) (.pair (.int .i64) .sl)))) (.pair (.int .i64) (.int .i64))), (.tup (.pair (.int .u32) (.int .i64))), fun x => f17_palaverref11_Pixel x.1 x.2.1 x.2.2⟩), (41, ⟨(.int .i64), (.int .u32), fun x => f41_palaverref11_all x⟩), (42, ⟨(.agg (.pair (.int .i64) (.pair (.int .i64) (.pair (.int .i64) .sl)))), (.agg (.pair (.int .i64) (.pair (.int .i64) (.pair (.int .i64) .sl)))), fun x => f42_palaverref11_like x⟩), (43, ⟨(.pair (.agg (.pair (.int .i64) (.pair (.int .i64) (.pair (.int .i64) .sl)))) (.pair (.int .i64) (.pair (.int .i64) (.int .u32)))), (.tup .unit), fun x => f43_palaverref11_put x.1 x.2.1 x.2.2.1 x.2.2.2⟩)] []
/-- palaverpalaverref11.Put -/
noncomputable def f19_palaverref11_Put (x0 : (Int × (Int × (Int × Sl)))) (x1 : Int) (x2 : Int) (x3 : Int) : M ((Int × (Int × (Int × Sl))) × Int) :=
  bnd (newC 24 [.int .i64 x0.1, .int .i64 x0.2.1, .int .i64 x0.2.2.1, .slice x0.2.2.2.a x0.2.2.2.len x0.2.2.2.cap]) fun (p1 : Addr) =>
  bnd (newC 24 [.int .i64 (0 : Int), .int .i64 (0 : Int), .int .i64 (0 : Int), .slice none 0 0]) fun (p2 : Addr) =>
  bnd (ld (.agg (.pair (.int .i64) (.pair (.int .i64) (.pair (.int .i64) .sl)))) p1) fun (v3 : (Int × (Int × (Int × Sl)))) =>
  bnd (f17_palaverref11_Pixel v3 x1 x2) fun (r4 : (Int × Int)) =>
  cnd (r4.2 != (0 : Int)) (
  bnd (wrs p2 0 [.int .i64 (0 : Int), .int .i64 (0 : Int), .int .i64 (0 : Int), .slice none 0 0]) fun _ =>
  bnd (ld (.agg (.pair (.int .i64) (.pair (.int .i64) (.pair (.int .i64) .sl)))) p2) fun (v5 : (Int × (Int × (Int × Sl)))) =>
  ret (v5, r4.2)) (
  bnd (ld (.int .i64) (Addr.add p1 2)) fun (v6 : Int) =>
  bnd (f41_palaverref11_all v6) fun (r7 : Int) =>
  cnd (decide (x3 > r7)) (
  bnd (wrs p2 0 [.int .i64 (0 : Int), .int .i64 (0 : Int), .int .i64 (0 : Int), .slice none 0 0]) fun _ =>
  bnd (ld (.agg (.pair (.int .i64) (.pair (.int .i64) (.pair (.int .i64) .sl)))) p2) fun (v8 : (Int × (Int × (Int × Sl)))) =>
  ret (v8, (1 : Int))) (
  bnd (ld (.agg (.pair (.int .i64) (.pair (.int .i64) (.pair (.int .i64) .sl)))) p1) fun (v9 : (Int × (Int × (Int × Sl)))) =>
  bnd (f42_palaverref11_like v9) fun (r10 : (Int × (Int × (Int × Sl)))) =>
  bnd (newC 24 [.int .i64 (0 : Int), .int .i64 (0 : Int), .int .i64 (0 : Int), .slice none 0 0]) fun (p11 : Addr) =>
  bnd (wrs p11 0 [.int .i64 r10.1, .int .i64 r10.2.1, .int .i64 r10.2.2.1, .slice r10.2.2.2.a r10.2.2.2.len r10.2.2.2.cap]) fun _ =>
  bnd (ld (.agg (.pair (.int .i64) (.pair (.int .i64) (.pair (.int .i64) .sl)))) p11) fun (v12 : (Int × (Int × (Int × Sl)))) =>
  bnd (f43_palaverref11_put v12 x1 x2 x3) fun (r13 : Unit) =>
  bnd (ld (.agg (.pair (.int .i64) (.pair (.int .i64) (.pair (.int .i64) .sl)))) p11) fun (v14 : (Int × (Int × (Int × Sl)))) =>
  bnd (wrs p2 0 [.int .i64 v14.1, .int .i64 v14.2.1, .int .i64 v14.2.2.1, .slice v14.2.2.2.a v14.2.2.2.len v14.2.2.2.cap]) fun _ =>
  bnd (ld (.agg (.pair (.int .i64) (.pair (.int .i64) (.pair (.int .i64) .sl)))) p2) fun (v15 : (Int × (Int × (Int × Sl)))) =>
  ret (v15, (0 : Int))))
noncomputable def Af19_palaverref11_Put : Ann := (.two .nil (.two .nil (.two (.two .nil (.two (.two .nil .nil) .nil)) (.two (.two .nil (.two (.two .nil .nil) .nil)) (.two .nil (.two .nil (.two .nil .nil)))))))
theorem Cf19_palaverref11_Put_ok : Cf19_palaverref11_Put.Ok := mkC_ok mixed tysOk zerosOk eqsOk ⟨Sf17_palaverref11_Pixel, Sf41_palaverref11_all, Sf42_palaverref11_like, Sf43_palaverref11_put, trivial⟩ trivial
theorem Ef19_palaverref11_Put (x : ((Int × (Int × (Int × Sl))) × (Int × (Int × Int)))) : evF Cf19_palaverref11_Put Try.f19 38 (.pair (.agg (.pair (.int .i64) (.pair (.int .i64) (.pair (.int .i64) .sl)))) (.pair (.int .i64) (.pair (.int .i64) (.int .u32)))) (.tup (.pair (.agg (.pair (.int .i64) (.pair (.int .i64) (.pair (.int .i64) .sl)))) (.int .i64))) Af19_palaverref11_Put x = f19_palaverref11_Put x.1 x.2.1 x.2.2.1 x.2.2.2 := by kernel_rfl
theorem Sf19_palaverref11_Put : SoundF Try.prog 19 ⟨(.pair (.agg (.pair (.int .i64) (.pair (.int .i64) (.pair (.int .i64) .sl)))) (.pair (.int .i64) (.pair (.int .i64) (.int .u32)))), (.tup (.pair (.agg (.pair (.int .i64) (.pair (.int .i64) (.pair (.int .i64) .sl)))) (.int .i64))), fun x => f19_palaverref11_Put x.1 x.2.1 x.2.2.1 x.2.2.2⟩ :=
  soundF_of Cf19_palaverref11_Put_ok Try.func19 (by kernel_rfl) (by kernel_rfl) Ef19_palaverref11_Put
noncomputable def Cf21_palaverref11_Rule : Ctx := mkC Try.prog tys zeros eqs [] []
/-- palaverpalaverref11.Rule -/
noncomputable def f21_palaverref11_Rule (x0 : Int) (x1 : Int) (x2 : Int) : M (Int × Int) :=
  cnd (cond (decide (x0 < (0 : Int))) true (decide (x0 > (15 : Int)))) (
  ret ((0 : Int), (111 : Int))) (
  loopM (fun (s1 : (Int × Int)) =>
  cnd (decide (s1.2 ≥ (0 : Int))) (
  bnd (cnt (IntKind.wrap .u64 s1.2)) fun (c2 : Nat) =>
  bnd (cnt (IntKind.wrap .u64 s1.2)) fun (c3 : Nat) =>
  bnd (cnt (IntKind.wrap .u64 (IntKind.wrap .u32 ((IntKind.wrap .u32 ((3 : Int) - (IntKind.wrap .u32 ((2 : Int) * (bAnd .u32 (shrI .u32 x1 c2) (1 : Int)))))) - (bAnd .u32 (shrI .u32 x2 c3) (1 : Int)))))) fun (c4 : Nat) =>
  ret (Sum.inl ((IntKind.wrap .u32 ((IntKind.wrap .u32 (s1.1 * (2 : Int))) + (bAnd .u32 (shrI .u32 (IntKind.wrap .u32 x0) c4) (1 : Int)))), (IntKind.wrap .i64 (s1.2 - (1 : Int)))))) (
  ret (Sum.inr (s1.1, (0 : Int))))) ((0 : Int), (31 : Int)))
noncomputable def Af21_palaverref11_Rule : Ann := (.two .nil (.two (.two .nil (.two (.two .nil .nil) .nil)) (.two .nil (.two (.two .nil (.one (.loop [(8, (.int .u32)), (9, (.int .i64))] [10, 11, 12, 19, 20, 21, 22, 23, 24, 25, 26, 27, 28, 29, 30, 31, 32, 33, 34, 35, 36, 37, 38, 39, 40, 41, 42, 43, 44, 45, 46] (.two (.two .nil (.two .nil .nil)) (.two (.one (.two .nil (.two .nil (.two .nil .nil)))) .nil))))) (.two .nil .nil)))))
theorem Cf21_palaverref11_Rule_ok : Cf21_palaverref11_Rule.Ok := mkC_ok mixed tysOk zerosOk eqsOk trivial trivial
theorem Ef21_palaverref11_Rule (x : (Int × (Int × Int))) : evF Cf21_palaverref11_Rule Try.f21 48 (.pair (.int .i64) (.pair (.int .u32) (.int .u32))) (.tup (.pair (.int .u32) (.int .i64))) Af21_palaverref11_Rule x = f21_palaverref11_Rule x.1 x.2.1 x.2.2 := by kernel_rfl
theorem Sf21_palaverref11_Rule : SoundF Try.prog 21 ⟨(.pair (.int .i64) (.pair (.int .u32) (.int .u32))), (.tup (.pair (.int .u32) (.int .i64))), fun x => f21_palaverref11_Rule x.1 x.2.1 x.2.2⟩ :=
  soundF_of Cf21_palaverref11_Rule_ok Try.func21 (by kernel_rfl) (by kernel_rfl) Ef21_palaverref11_Rule
noncomputable def Cf22_palaverref00_WholeBits : Ctx := mkC Try.prog tys zeros eqs [(27, ⟨(.pair .sl .sl), .bool, fun x => f27_palaverref00_SameBits x.1 x.2⟩)] []
/-- palaverpalaverref00.WholeBits -/
noncomputable def f22_palaverref00_WholeBits (x0 : Sl) (x1 : Sl) : M Bool :=
  cnd (decide ((x0.cap : Int) < (IntKind.wrap .i64 ((x0.len : Int) + (2 : Int))))) (
  ret false) (
  bnd (slc 1 x0 none (some (IntKind.wrap .i64 ((x0.len : Int) + (2 : Int)))) none) fun (v1 : Sl) =>
  bnd (f27_palaverref00_SameBits x0 x1) fun (r2 : Bool) =>
  bnd (
  cnd r2 (
  bnd (ix 1 v1 (x0.len : Int)) fun (p3 : Addr) =>
  bnd (ld (.int .u32) p3) fun (v4 : Int) =>
  ret (v4 == (8999229 : Int))) (
  ret false)) fun (b5 : Bool) =>
  bnd (
  cnd b5 (
  bnd (ix 1 v1 (IntKind.wrap .i64 ((x0.len : Int) + (1 : Int)))) fun (p6 : Addr) =>
  bnd (ld (.int .u32) p6) fun (v7 : Int) =>
  ret (v7 == (8999228 : Int))) (
  ret false)) fun (b8 : Bool) =>
  ret b8)
noncomputable def Af22_palaverref00_WholeBits : Ann := (.two .nil (.two (.two .nil (.two (.two .nil .nil) .nil)) (.two .nil (.two .nil (.two .nil .nil)))))
theorem Cf22_palaverref00_WholeBits_ok : Cf22_palaverref00_WholeBits.Ok := mkC_ok mixed tysOk zerosOk eqsOk ⟨Sf27_palaverref00_SameBits, trivial⟩ trivial
theorem Ef22_palaverref00_WholeBits (x : (Sl × Sl)) : evF Cf22_palaverref00_WholeBits Try.f22 39 (.pair .sl .sl) .bool Af22_palaverref00_WholeBits x = f22_palaverref00_WholeBits x.1 x.2 := by kernel_rfl
theorem Sf22_palaverref00_WholeBits : SoundF Try.prog 22 ⟨(.pair .sl .sl), .bool, fun x => f22_palaverref00_WholeBits x.1 x.2⟩ :=
  soundF_of Cf22_palaverref00_WholeBits_ok Try.func22 (by kernel_rfl) (by kernel_rfl) Ef22_palaverref00_WholeBits
noncomputable def Cf23_palaverref00_Book_Bits : Ctx := mkC Try.prog tys zeros eqs [] []
/-- (*palaverpalaverref00.Book).Bits -/
noncomputable def f23_palaverref00_Book_Bits (x0 : Option Addr) (x1 : Sl) : M Unit :=
  bnd (drf x0) fun (p1 : Addr) =>
  bnd (ld .sl (Addr.add p1 7)) fun (v2 : Sl) =>
  bnd (runV Try.prog .sl (Instr.buildSlice 46 1 #[(0, .slice x1.a x1.len x1.cap)])) fun (v3 : Sl) =>
  bnd (runV Try.prog .sl (Builtin.append_ #[46, 46] 46 #[.slice v2.a v2.len v2.cap, .slice v3.a v3.len v3.cap])) fun (v4 : Sl) =>
  bnd (drf x0) fun (p5 : Addr) =>
  bnd (wrs (Addr.add p5 7) 0 [.slice v4.a v4.len v4.cap]) fun _ =>
  ret ()
noncomputable def Af23_palaverref00_Book_Bits : Ann := .nil
theorem Cf23_palaverref00_Book_Bits_ok : Cf23_palaverref00_Book_Bits.Ok := mkC_ok mixed tysOk zerosOk eqsOk trivial trivial
theorem Ef23_palaverref00_Book_Bits (x : (Option Addr × Sl)) : evF Cf23_palaverref00_Book_Bits Try.f23 14 (.pair .ptr .sl) (.tup .unit) Af23_palaverref00_Book_Bits x = f23_palaverref00_Book_Bits x.1 x.2 := by kernel_rfl
theorem Sf23_palaverref00_Book_Bits : SoundF Try.prog 23 ⟨(.pair .ptr .sl), (.tup .unit), fun x => f23_palaverref00_Book_Bits x.1 x.2⟩ :=
  soundF_of Cf23_palaverref00_Book_Bits_ok Try.func23 (by kernel_rfl) (by kernel_rfl) Ef23_palaverref00_Book_Bits
noncomputable def Cf45_palaverref00_ownInts : Ctx := mkC Try.prog tys zeros eqs [] []
/-- palaverpalaverref00.ownInts -/
noncomputable def f45_palaverref00_ownInts (x0 : Sl) : M Bool :=
  loopM (fun (s1 : Int) =>
  cnd (decide (s1 < (x0.len : Int))) (
  loopM (fun (s2 : Int) =>
  bnd (ix 1 x0 s1) fun (p3 : Addr) =>
  bnd (ld .sl p3) fun (v4 : Sl) =>
  cnd (decide (s2 < (v4.len : Int))) (
  bnd (ix 1 x0 s1) fun (p5 : Addr) =>
  bnd (ld .sl p5) fun (v6 : Sl) =>
  bnd (ix 1 v6 s2) fun (p7 : Addr) =>
  bnd (wrs p7 0 [.int .i64 (IntKind.wrap .i64 ((IntKind.wrap .i64 (s1 * (1000 : Int))) + s2))]) fun _ =>
  ret (Sum.inl (IntKind.wrap .i64 (s2 + (1 : Int))))) (
  ret (Sum.inr (Sum.inl (IntKind.wrap .i64 (s1 + (1 : Int))))))) (0 : Int)) (
  bnd (
  loopM (fun (s8 : (Sl × Int)) =>
  cnd (decide (s8.2 < (x0.len : Int))) (
  bnd (ix 1 x0 s8.2) fun (p9 : Addr) =>
  bnd (ld .sl p9) fun (v10 : Sl) =>
  loopM (fun (s11 : (Sl × Int)) =>
  cnd (decide (s11.2 < (16 : Int))) (
  bnd (runV Try.prog .sl (Instr.buildSlice 90 1 #[(0, .int .i64 (IntKind.wrap .i64 ((IntKind.wrap .i64 ((IntKind.wrap .i64 ((-1 : Int) - s8.2)) * (1000 : Int))) - s11.2)))])) fun (v12 : Sl) =>
  bnd (runV Try.prog .sl (Builtin.append_ #[90, 90] 90 #[.slice s11.1.a s11.1.len s11.1.cap, .slice v12.a v12.len v12.cap])) fun (v13 : Sl) =>
  ret (Sum.inl (v13, (IntKind.wrap .i64 (s11.2 + (1 : Int)))))) (
  bnd (
  bnd (runV Try.prog .sl (Instr.buildSlice 39 1 #[(0, .slice s11.1.a s11.1.len s11.1.cap)])) fun (v14 : Sl) =>
  bnd (runV Try.prog .sl (Builtin.append_ #[39, 39] 39 #[.slice s8.1.a s8.1.len s8.1.cap, .slice v14.a v14.len v14.cap])) fun (v15 : Sl) =>
  ret (Sum.inl (v15, (IntKind.wrap .i64 (s8.2 + (1 : Int)))))) fun r16 =>
  ret (Sum.inr r16))) (v10, (0 : Int))) (
  bnd (
  loopM (fun (s17 : Int) =>
  cnd (decide (s17 < (x0.len : Int))) (
  bnd (ix 1 x0 s17) fun (p18 : Addr) =>
  bnd (ld .sl p18) fun (v19 : Sl) =>
  loopM (fun (s20 : Int) =>
  cnd (decide (s20 < (v19.len : Int))) (
  bnd (ix 1 x0 s17) fun (p21 : Addr) =>
  bnd (ld .sl p21) fun (v22 : Sl) =>
  bnd (ix 1 v22 s20) fun (p23 : Addr) =>
  bnd (ld (.int .i64) p23) fun (v24 : Int) =>
  bnd (
  cnd (v24 != (IntKind.wrap .i64 ((IntKind.wrap .i64 (s17 * (1000 : Int))) + s20))) (
  ret true) (
  bnd (ix 1 s8.1 s17) fun (p25 : Addr) =>
  bnd (ld .sl p25) fun (v26 : Sl) =>
  bnd (ix 1 v26 s20) fun (p27 : Addr) =>
  bnd (ld (.int .i64) p27) fun (v28 : Int) =>
  ret (v28 != (IntKind.wrap .i64 ((IntKind.wrap .i64 (s17 * (1000 : Int))) + s20))))) fun (b29 : Bool) =>
  cnd b29 (
  ret (Sum.inr (Sum.inr false))) (
  ret (Sum.inl (IntKind.wrap .i64 (s20 + (1 : Int)))))) (
  bnd (
  loopM (fun (s30 : Int) =>
  cnd (decide (s30 < (16 : Int))) (
  bnd (ix 1 s8.1 s17) fun (p31 : Addr) =>
  bnd (ld .sl p31) fun (v32 : Sl) =>
  bnd (ix 1 v32 (IntKind.wrap .i64 ((v19.len : Int) + s30))) fun (p33 : Addr) =>
  bnd (ld (.int .i64) p33) fun (v34 : Int) =>
  cnd (v34 != (IntKind.wrap .i64 ((IntKind.wrap .i64 ((IntKind.wrap .i64 ((-1 : Int) - s17)) * (1000 : Int))) - s30))) (
  ret (Sum.inr (Sum.inr false))) (
  ret (Sum.inl (IntKind.wrap .i64 (s30 + (1 : Int)))))) (
  ret (Sum.inr (Sum.inl (IntKind.wrap .i64 (s17 + (1 : Int))))))) (0 : Int)) fun r35 =>
  ret (Sum.inr r35))) (0 : Int)) (
  ret (Sum.inr true))) (0 : Int)) fun r36 =>
  ret (Sum.inr r36))) ((Sl.mk none 0 0), (0 : Int))) fun r37 =>
  ret (Sum.inr r37))) (0 : Int)
noncomputable def Af45_palaverref00_ownInts : Ann := (.two .nil (.two (.two .nil (.one (.loop [(3, (.int .i64))] [4, 13, 14, 15, 16, 17, 18, 19, 20, 21, 22, 23, 24, 25, 26, 27, 28, 29, 30, 31, 32, 33, 34, 35, 36, 37] (.two (.two .nil (.two .nil .nil)) (.two (.one (.two .nil (.one (.loop [(4, (.int .i64))] [19, 20, 21, 22, 23, 24, 25, 26, 27, 28, 29, 30, 31, 32, 33, 34, 35, 36, 37] (.two (.two .nil (.two .nil .nil)) (.two (.one .nil) .nil)))))) .nil))))) (.two .nil (.two (.two .nil (.one (.loop [(5, .sl), (6, (.int .i64))] [7, 8, 38, 39, 40, 41, 42, 43, 44, 45, 46, 47, 48, 49, 50, 51, 52, 53, 54, 55, 56, 57, 58, 59, 60, 61, 62, 63] (.two (.two .nil (.two .nil .nil)) (.two (.one (.two .nil (.two (.two .nil (.one (.loop [(7, .sl), (8, (.int .i64))] [48, 49, 50, 51, 52, 53, 54, 55, 56, 57, 58, 59] (.two (.two .nil (.two .nil .nil)) (.two (.one .nil) .nil))))) .nil))) .nil))))) (.two (.two .nil (.one (.loop [(9, (.int .i64))] [2, 10, 11, 12, 64, 65, 66, 67, 68, 69, 70, 71, 72, 73, 74, 75, 76, 77, 78, 79, 80, 81, 82, 83, 84, 85, 86, 87, 88, 89, 90, 91, 92, 93, 94, 95, 96, 97, 98, 99, 100, 101, 102, 103, 104, 105, 106, 107, 108, 109, 110, 111, 112, 113, 114, 115, 116, 117, 118, 119, 120, 121, 122, 123, 124] (.two (.two .nil (.two .nil .nil)) (.two (.one (.two .nil (.two (.two .nil (.one (.loop [(11, (.int .i64))] [2, 75, 76, 77, 78, 79, 80, 81, 82, 83, 84, 85, 86, 87, 88, 89, 90, 91, 92, 93, 94, 95, 96, 97, 98, 99, 100, 101, 102, 103, 104, 105] (.two (.two .nil (.two .nil .nil)) (.two (.one (.two .nil (.two (.two .nil .nil) .nil))) .nil))))) (.two .nil (.one (.loop [(12, (.int .i64))] [2, 106, 107, 108, 109, 110, 111, 112, 113, 114, 115, 116, 117, 118, 119, 120, 121, 122, 123, 124] (.two (.two .nil (.two .nil .nil)) (.two (.one (.two .nil (.two (.two .nil .nil) .nil))) .nil)))))))) .nil))))) (.two .nil .nil))))))
theorem Cf45_palaverref00_ownInts_ok : Cf45_palaverref00_ownInts.Ok := mkC_ok mixed tysOk zerosOk eqsOk trivial trivial
theorem Ef45_palaverref00_ownInts (x : Sl) : evF Cf45_palaverref00_ownInts Try.f45 125 .sl .bool Af45_palaverref00_ownInts x = f45_palaverref00_ownInts x := by kernel_rfl
theorem Sf45_palaverref00_ownInts : SoundF Try.prog 45 ⟨.sl, .bool, fun x => f45_palaverref00_ownInts x⟩ :=
  soundF_of Cf45_palaverref00_ownInts_ok Try.func45 (by kernel_rfl) (by kernel_rfl) Ef45_palaverref00_ownInts
noncomputable def Cf46_palaverref00_ownNumbers : Ctx := mkC Try.prog tys zeros eqs [] []
/-- palaverpalaverref00.ownNumbers -/
noncomputable def f46_palaverref00_ownNumbers (x0 : Sl) : M Bool :=
  loopM (fun (s1 : Int) =>
  cnd (decide (s1 < (x0.len : Int))) (
  loopM (fun (s2 : Int) =>
  bnd (ix 1 x0 s1) fun (p3 : Addr) =>
  bnd (ld .sl p3) fun (v4 : Sl) =>
  cnd (decide (s2 < (v4.len : Int))) (
  bnd (ix 1 x0 s1) fun (p5 : Addr) =>
  bnd (ld .sl p5) fun (v6 : Sl) =>
  bnd (ix 1 v6 s2) fun (p7 : Addr) =>
  bnd (wrs p7 0 [.int .u64 (IntKind.wrap .u64 (IntKind.wrap .i64 ((IntKind.wrap .i64 ((IntKind.wrap .i64 (s1 * (1000 : Int))) + s2)) + (9000000 : Int))))]) fun _ =>
  ret (Sum.inl (IntKind.wrap .i64 (s2 + (1 : Int))))) (
  ret (Sum.inr (Sum.inl (IntKind.wrap .i64 (s1 + (1 : Int))))))) (0 : Int)) (
  bnd (
  loopM (fun (s8 : (Sl × Int)) =>
  cnd (decide (s8.2 < (x0.len : Int))) (
  bnd (ix 1 x0 s8.2) fun (p9 : Addr) =>
  bnd (ld .sl p9) fun (v10 : Sl) =>
  loopM (fun (s11 : (Sl × Int)) =>
  cnd (decide (s11.2 < (16 : Int))) (
  bnd (runV Try.prog .sl (Instr.buildSlice 91 1 #[(0, .int .u64 (IntKind.wrap .u64 (IntKind.wrap .i64 ((IntKind.wrap .i64 ((IntKind.wrap .i64 ((IntKind.wrap .i64 ((-1 : Int) - s8.2)) * (1000 : Int))) - s11.2)) + (9000000 : Int)))))])) fun (v12 : Sl) =>
  bnd (runV Try.prog .sl (Builtin.append_ #[91, 91] 91 #[.slice s11.1.a s11.1.len s11.1.cap, .slice v12.a v12.len v12.cap])) fun (v13 : Sl) =>
  ret (Sum.inl (v13, (IntKind.wrap .i64 (s11.2 + (1 : Int)))))) (
  bnd (
  bnd (runV Try.prog .sl (Instr.buildSlice 40 1 #[(0, .slice s11.1.a s11.1.len s11.1.cap)])) fun (v14 : Sl) =>
  bnd (runV Try.prog .sl (Builtin.append_ #[40, 40] 40 #[.slice s8.1.a s8.1.len s8.1.cap, .slice v14.a v14.len v14.cap])) fun (v15 : Sl) =>
  ret (Sum.inl (v15, (IntKind.wrap .i64 (s8.2 + (1 : Int)))))) fun r16 =>
  ret (Sum.inr r16))) (v10, (0 : Int))) (
  bnd (
  loopM (fun (s17 : Int) =>
  cnd (decide (s17 < (x0.len : Int))) (
  bnd (ix 1 x0 s17) fun (p18 : Addr) =>
  bnd (ld .sl p18) fun (v19 : Sl) =>
  loopM (fun (s20 : Int) =>
  cnd (decide (s20 < (v19.len : Int))) (
  bnd (ix 1 x0 s17) fun (p21 : Addr) =>
  bnd (ld .sl p21) fun (v22 : Sl) =>
  bnd (ix 1 v22 s20) fun (p23 : Addr) =>
  bnd (ld (.int .u64) p23) fun (v24 : Int) =>
  bnd (
  cnd (v24 != (IntKind.wrap .u64 (IntKind.wrap .i64 ((IntKind.wrap .i64 ((IntKind.wrap .i64 (s17 * (1000 : Int))) + s20)) + (9000000 : Int))))) (
  ret true) (
  bnd (ix 1 s8.1 s17) fun (p25 : Addr) =>
  bnd (ld .sl p25) fun (v26 : Sl) =>
  bnd (ix 1 v26 s20) fun (p27 : Addr) =>
  bnd (ld (.int .u64) p27) fun (v28 : Int) =>
  ret (v28 != (IntKind.wrap .u64 (IntKind.wrap .i64 ((IntKind.wrap .i64 ((IntKind.wrap .i64 (s17 * (1000 : Int))) + s20)) + (9000000 : Int))))))) fun (b29 : Bool) =>
  cnd b29 (
  ret (Sum.inr (Sum.inr false))) (
  ret (Sum.inl (IntKind.wrap .i64 (s20 + (1 : Int)))))) (
  bnd (
  loopM (fun (s30 : Int) =>
  cnd (decide (s30 < (16 : Int))) (
  bnd (ix 1 s8.1 s17) fun (p31 : Addr) =>
  bnd (ld .sl p31) fun (v32 : Sl) =>
  bnd (ix 1 v32 (IntKind.wrap .i64 ((v19.len : Int) + s30))) fun (p33 : Addr) =>
  bnd (ld (.int .u64) p33) fun (v34 : Int) =>
  cnd (v34 != (IntKind.wrap .u64 (IntKind.wrap .i64 ((IntKind.wrap .i64 ((IntKind.wrap .i64 ((IntKind.wrap .i64 ((-1 : Int) - s17)) * (1000 : Int))) - s30)) + (9000000 : Int))))) (
  ret (Sum.inr (Sum.inr false))) (
  ret (Sum.inl (IntKind.wrap .i64 (s30 + (1 : Int)))))) (
  ret (Sum.inr (Sum.inl (IntKind.wrap .i64 (s17 + (1 : Int))))))) (0 : Int)) fun r35 =>
  ret (Sum.inr r35))) (0 : Int)) (
  ret (Sum.inr true))) (0 : Int)) fun r36 =>
  ret (Sum.inr r36))) ((Sl.mk none 0 0), (0 : Int))) fun r37 =>
  ret (Sum.inr r37))) (0 : Int)
noncomputable def Af46_palaverref00_ownNumbers : Ann := (.two .nil (.two (.two .nil (.one (.loop [(3, (.int .i64))] [4, 13, 14, 15, 16, 17, 18, 19, 20, 21, 22, 23, 24, 25, 26, 27, 28, 29, 30, 31, 32, 33, 34, 35, 36, 37, 38, 39] (.two (.two .nil (.two .nil .nil)) (.two (.one (.two .nil (.one (.loop [(4, (.int .i64))] [19, 20, 21, 22, 23, 24, 25, 26, 27, 28, 29, 30, 31, 32, 33, 34, 35, 36, 37, 38, 39] (.two (.two .nil (.two .nil .nil)) (.two (.one .nil) .nil)))))) .nil))))) (.two .nil (.two (.two .nil (.one (.loop [(5, .sl), (6, (.int .i64))] [7, 8, 40, 41, 42, 43, 44, 45, 46, 47, 48, 49, 50, 51, 52, 53, 54, 55, 56, 57, 58, 59, 60, 61, 62, 63, 64, 65, 66, 67] (.two (.two .nil (.two .nil .nil)) (.two (.one (.two .nil (.two (.two .nil (.one (.loop [(7, .sl), (8, (.int .i64))] [50, 51, 52, 53, 54, 55, 56, 57, 58, 59, 60, 61, 62, 63] (.two (.two .nil (.two .nil .nil)) (.two (.one .nil) .nil))))) .nil))) .nil))))) (.two (.two .nil (.one (.loop [(9, (.int .i64))] [2, 10, 11, 12, 68, 69, 70, 71, 72, 73, 74, 75, 76, 77, 78, 79, 80, 81, 82, 83, 84, 85, 86, 87, 88, 89, 90, 91, 92, 93, 94, 95, 96, 97, 98, 99, 100, 101, 102, 103, 104, 105, 106, 107, 108, 109, 110, 111, 112, 113, 114, 115, 116, 117, 118, 119, 120, 121, 122, 123, 124, 125, 126, 127, 128, 129, 130, 131, 132, 133, 134] (.two (.two .nil (.two .nil .nil)) (.two (.one (.two .nil (.two (.two .nil (.one (.loop [(11, (.int .i64))] [2, 79, 80, 81, 82, 83, 84, 85, 86, 87, 88, 89, 90, 91, 92, 93, 94, 95, 96, 97, 98, 99, 100, 101, 102, 103, 104, 105, 106, 107, 108, 109, 110, 111, 112, 113] (.two (.two .nil (.two .nil .nil)) (.two (.one (.two .nil (.two (.two .nil .nil) .nil))) .nil))))) (.two .nil (.one (.loop [(12, (.int .i64))] [2, 114, 115, 116, 117, 118, 119, 120, 121, 122, 123, 124, 125, 126, 127, 128, 129, 130, 131, 132, 133, 134] (.two (.two .nil (.two .nil .nil)) (.two (.one (.two .nil (.two (.two .nil .nil) .nil))) .nil)))))))) .nil))))) (.two .nil .nil))))))
theorem Cf46_palaverref00_ownNumbers_ok : Cf46_palaverref00_ownNumbers.Ok := mkC_ok mixed tysOk zerosOk eqsOk trivial trivial
theorem Ef46_palaverref00_ownNumbers (x : Sl) : evF Cf46_palaverref00_ownNumbers Try.f46 135 .sl .bool Af46_palaverref00_ownNumbers x = f46_palaverref00_ownNumbers x := by kernel_rfl
theorem Sf46_palaverref00_ownNumbers : SoundF Try.prog 46 ⟨.sl, .bool, fun x => f46_palaverref00_ownNumbers x⟩ :=
  soundF_of Cf46_palaverref00_ownNumbers_ok Try.func46 (by kernel_rfl) (by kernel_rfl) Ef46_palaverref00_ownNumbers
noncomputable def Cf47_palaverref00_ownOops : Ctx := mkC Try.prog tys zeros eqs [] []
/-- palaverpalaverref00.ownOops -/
noncomputable def f47_palaverref00_ownOops (x0 : Sl) : M Bool :=
  loopM (fun (s1 : Int) =>
  cnd (decide (s1 < (x0.len : Int))) (
  loopM (fun (s2 : Int) =>
  bnd (ix 1 x0 s1) fun (p3 : Addr) =>
  bnd (ld .sl p3) fun (v4 : Sl) =>
  cnd (decide (s2 < (v4.len : Int))) (
  bnd (ix 1 x0 s1) fun (p5 : Addr) =>
  bnd (ld .sl p5) fun (v6 : Sl) =>
  bnd (ix 1 v6 s2) fun (p7 : Addr) =>
  bnd (wrs p7 0 [.int .u64 (IntKind.wrap .u64 (IntKind.wrap .i64 ((IntKind.wrap .i64 ((IntKind.wrap .i64 (s1 * (1000 : Int))) + s2)) + (9000000 : Int))))]) fun _ =>
  ret (Sum.inl (IntKind.wrap .i64 (s2 + (1 : Int))))) (
  ret (Sum.inr (Sum.inl (IntKind.wrap .i64 (s1 + (1 : Int))))))) (0 : Int)) (
  bnd (
  loopM (fun (s8 : (Sl × Int)) =>
  cnd (decide (s8.2 < (x0.len : Int))) (
  bnd (ix 1 x0 s8.2) fun (p9 : Addr) =>
  bnd (ld .sl p9) fun (v10 : Sl) =>
  loopM (fun (s11 : (Sl × Int)) =>
  cnd (decide (s11.2 < (16 : Int))) (
  bnd (runV Try.prog .sl (Instr.buildSlice 92 1 #[(0, .int .u64 (IntKind.wrap .u64 (IntKind.wrap .i64 ((IntKind.wrap .i64 ((IntKind.wrap .i64 ((IntKind.wrap .i64 ((-1 : Int) - s8.2)) * (1000 : Int))) - s11.2)) + (9000000 : Int)))))])) fun (v12 : Sl) =>
  bnd (runV Try.prog .sl (Builtin.append_ #[92, 92] 92 #[.slice s11.1.a s11.1.len s11.1.cap, .slice v12.a v12.len v12.cap])) fun (v13 : Sl) =>
  ret (Sum.inl (v13, (IntKind.wrap .i64 (s11.2 + (1 : Int)))))) (
  bnd (
  bnd (runV Try.prog .sl (Instr.buildSlice 41 1 #[(0, .slice s11.1.a s11.1.len s11.1.cap)])) fun (v14 : Sl) =>
  bnd (runV Try.prog .sl (Builtin.append_ #[41, 41] 41 #[.slice s8.1.a s8.1.len s8.1.cap, .slice v14.a v14.len v14.cap])) fun (v15 : Sl) =>
  ret (Sum.inl (v15, (IntKind.wrap .i64 (s8.2 + (1 : Int)))))) fun r16 =>
  ret (Sum.inr r16))) (v10, (0 : Int))) (
  bnd (
  loopM (fun (s17 : Int) =>
  cnd (decide (s17 < (x0.len : Int))) (
  bnd (ix 1 x0 s17) fun (p18 : Addr) =>
  bnd (ld .sl p18) fun (v19 : Sl) =>
  loopM (fun (s20 : Int) =>
  cnd (decide (s20 < (v19.len : Int))) (
  bnd (ix 1 x0 s17) fun (p21 : Addr) =>
  bnd (ld .sl p21) fun (v22 : Sl) =>
  bnd (ix 1 v22 s20) fun (p23 : Addr) =>
  bnd (ld (.int .u64) p23) fun (v24 : Int) =>
  bnd (
  cnd (v24 != (IntKind.wrap .u64 (IntKind.wrap .i64 ((IntKind.wrap .i64 ((IntKind.wrap .i64 (s17 * (1000 : Int))) + s20)) + (9000000 : Int))))) (
  ret true) (
  bnd (ix 1 s8.1 s17) fun (p25 : Addr) =>
  bnd (ld .sl p25) fun (v26 : Sl) =>
  bnd (ix 1 v26 s20) fun (p27 : Addr) =>
  bnd (ld (.int .u64) p27) fun (v28 : Int) =>
  ret (v28 != (IntKind.wrap .u64 (IntKind.wrap .i64 ((IntKind.wrap .i64 ((IntKind.wrap .i64 (s17 * (1000 : Int))) + s20)) + (9000000 : Int))))))) fun (b29 : Bool) =>
  cnd b29 (
  ret (Sum.inr (Sum.inr false))) (
  ret (Sum.inl (IntKind.wrap .i64 (s20 + (1 : Int)))))) (
  bnd (
  loopM (fun (s30 : Int) =>
  cnd (decide (s30 < (16 : Int))) (
  bnd (ix 1 s8.1 s17) fun (p31 : Addr) =>
  bnd (ld .sl p31) fun (v32 : Sl) =>
  bnd (ix 1 v32 (IntKind.wrap .i64 ((v19.len : Int) + s30))) fun (p33 : Addr) =>
  bnd (ld (.int .u64) p33) fun (v34 : Int) =>
  cnd (v34 != (IntKind.wrap .u64 (IntKind.wrap .i64 ((IntKind.wrap .i64 ((IntKind.wrap .i64 ((IntKind.wrap .i64 ((-1 : Int) - s17)) * (1000 : Int))) - s30)) + (9000000 : Int))))) (
  ret (Sum.inr (Sum.inr false))) (
  ret (Sum.inl (IntKind.wrap .i64 (s30 + (1 : Int)))))) (
  ret (Sum.inr (Sum.inl (IntKind.wrap .i64 (s17 + (1 : Int))))))) (0 : Int)) fun r35 =>
  ret (Sum.inr r35))) (0 : Int)) (
  ret (Sum.inr true))) (0 : Int)) fun r36 =>
  ret (Sum.inr r36))) ((Sl.mk none 0 0), (0 : Int))) fun r37 =>
  ret (Sum.inr r37))) (0 : Int)
noncomputable def Af47_palaverref00_ownOops : Ann := (.two .nil (.two (.two .nil (.one (.loop [(3, (.int .i64))] [4, 13, 14, 15, 16, 17, 18, 19, 20, 21, 22, 23, 24, 25, 26, 27, 28, 29, 30, 31, 32, 33, 34, 35, 36, 37, 38, 39] (.two (.two .nil (.two .nil .nil)) (.two (.one (.two .nil (.one (.loop [(4, (.int .i64))] [19, 20, 21, 22, 23, 24, 25, 26, 27, 28, 29, 30, 31, 32, 33, 34, 35, 36, 37, 38, 39] (.two (.two .nil (.two .nil .nil)) (.two (.one .nil) .nil)))))) .nil))))) (.two .nil (.two (.two .nil (.one (.loop [(5, .sl), (6, (.int .i64))] [7, 8, 40, 41, 42, 43, 44, 45, 46, 47, 48, 49, 50, 51, 52, 53, 54, 55, 56, 57, 58, 59, 60, 61, 62, 63, 64, 65, 66, 67] (.two (.two .nil (.two .nil .nil)) (.two (.one (.two .nil (.two (.two .nil (.one (.loop [(7, .sl), (8, (.int .i64))] [50, 51, 52, 53, 54, 55, 56, 57, 58, 59, 60, 61, 62, 63] (.two (.two .nil (.two .nil .nil)) (.two (.one .nil) .nil))))) .nil))) .nil))))) (.two (.two .nil (.one (.loop [(9, (.int .i64))] [2, 10, 11, 12, 68, 69, 70, 71, 72, 73, 74, 75, 76, 77, 78, 79, 80, 81, 82, 83, 84, 85, 86, 87, 88, 89, 90, 91, 92, 93, 94, 95, 96, 97, 98, 99, 100, 101, 102, 103, 104, 105, 106, 107, 108, 109, 110, 111, 112, 113, 114, 115, 116, 117, 118, 119, 120, 121, 122, 123, 124, 125, 126, 127, 128, 129, 130, 131, 132, 133, 134] (.two (.two .nil (.two .nil .nil)) (.two (.one (.two .nil (.two (.two .nil (.one (.loop [(11, (.int .i64))] [2, 79, 80, 81, 82, 83, 84, 85, 86, 87, 88, 89, 90, 91, 92, 93, 94, 95, 96, 97, 98, 99, 100, 101, 102, 103, 104, 105, 106, 107, 108, 109, 110, 111, 112, 113] (.two (.two .nil (.two .nil .nil)) (.two (.one (.two .nil (.two (.two .nil .nil) .nil))) .nil))))) (.two .nil (.one (.loop [(12, (.int .i64))] [2, 114, 115, 116, 117, 118, 119, 120, 121, 122, 123, 124, 125, 126, 127, 128, 129, 130, 131, 132, 133, 134] (.two (.two .nil (.two .nil .nil)) (.two (.one (.two .nil (.two (.two .nil .nil) .nil))) .nil)))))))) .nil))))) (.two .nil .nil))))))
theorem Cf47_palaverref00_ownOops_ok : Cf47_palaverref00_ownOops.Ok := mkC_ok mixed tysOk zerosOk eqsOk trivial trivial
theorem Ef47_palaverref00_ownOops (x : Sl) : evF Cf47_palaverref00_ownOops Try.f47 135 .sl .bool Af47_palaverref00_ownOops x = f47_palaverref00_ownOops x := by kernel_rfl
theorem Sf47_palaverref00_ownOops : SoundF Try.prog 47 ⟨.sl, .bool, fun x => f47_palaverref00_ownOops x⟩ :=
  soundF_of Cf47_palaverref00_ownOops_ok Try.func47 (by kernel_rfl) (by kernel_rfl) Ef47_palaverref00_ownOops
noncomputable def Cf48_palaverref00_ownDeeds : Ctx := mkC Try.prog tys zeros eqs [] []
/-- palaverpalaverref00.ownDeeds -/
noncomputable def f48_palaverref00_ownDeeds (x0 : Sl) : M Bool :=
  loopM (fun (s1 : Int) =>
  cnd (decide (s1 < (x0.len : Int))) (
  loopM (fun (s2 : Int) =>
  bnd (ix 1 x0 s1) fun (p3 : Addr) =>
  bnd (ld .sl p3) fun (v4 : Sl) =>
  cnd (decide (s2 < (v4.len : Int))) (
  bnd (ix 1 x0 s1) fun (p5 : Addr) =>
  bnd (ld .sl p5) fun (v6 : Sl) =>
  bnd (ix 6 v6 s2) fun (p7 : Addr) =>
  bnd (wrs p7 0 [.int .u8 (0 : Int), .int .i64 (IntKind.wrap .i64 ((IntKind.wrap .i64 (s1 * (1000 : Int))) + s2)), .string (ByteArray.mk #[]), .string (ByteArray.mk #[]), .int .i64 (0 : Int), .int .i64 (0 : Int)]) fun _ =>
  ret (Sum.inl (IntKind.wrap .i64 (s2 + (1 : Int))))) (
  ret (Sum.inr (Sum.inl (IntKind.wrap .i64 (s1 + (1 : Int))))))) (0 : Int)) (
  bnd (
  loopM (fun (s8 : (Sl × Int)) =>
  cnd (decide (s8.2 < (x0.len : Int))) (
  bnd (ix 1 x0 s8.2) fun (p9 : Addr) =>
  bnd (ld .sl p9) fun (v10 : Sl) =>
  loopM (fun (s11 : (Sl × Int)) =>
  cnd (decide (s11.2 < (16 : Int))) (
  bnd (runV Try.prog .sl (Instr.buildSlice 94 1 #[(0, .agg #[.int .u8 (0 : Int), .int .i64 (IntKind.wrap .i64 ((IntKind.wrap .i64 ((IntKind.wrap .i64 ((-1 : Int) - s8.2)) * (1000 : Int))) - s11.2)), .string (ByteArray.mk #[]), .string (ByteArray.mk #[]), .int .i64 (0 : Int), .int .i64 (0 : Int)])])) fun (v12 : Sl) =>
  bnd (runV Try.prog .sl (Builtin.append_ #[94, 94] 94 #[.slice s11.1.a s11.1.len s11.1.cap, .slice v12.a v12.len v12.cap])) fun (v13 : Sl) =>
  ret (Sum.inl (v13, (IntKind.wrap .i64 (s11.2 + (1 : Int)))))) (
  bnd (
  bnd (runV Try.prog .sl (Instr.buildSlice 42 1 #[(0, .slice s11.1.a s11.1.len s11.1.cap)])) fun (v14 : Sl) =>
  bnd (runV Try.prog .sl (Builtin.append_ #[42, 42] 42 #[.slice s8.1.a s8.1.len s8.1.cap, .slice v14.a v14.len v14.cap])) fun (v15 : Sl) =>
  ret (Sum.inl (v15, (IntKind.wrap .i64 (s8.2 + (1 : Int)))))) fun r16 =>
  ret (Sum.inr r16))) (v10, (0 : Int))) (
  bnd (
  loopM (fun (s17 : Int) =>
  cnd (decide (s17 < (x0.len : Int))) (
  bnd (ix 1 x0 s17) fun (p18 : Addr) =>
  bnd (ld .sl p18) fun (v19 : Sl) =>
  loopM (fun (s20 : Int) =>
  cnd (decide (s20 < (v19.len : Int))) (
  bnd (ix 1 x0 s17) fun (p21 : Addr) =>
  bnd (ld .sl p21) fun (v22 : Sl) =>
  bnd (ix 6 v22 s20) fun (p23 : Addr) =>
  bnd (ld (.agg (.pair (.int .u8) (.pair (.int .i64) (.pair .str (.pair .str (.pair (.int .i64) (.int .i64))))))) p23) fun (v24 : (Int × (Int × (ByteArray × (ByteArray × (Int × Int)))))) =>
  bnd (
  cnd (!((v24.1 == (0 : Int)) && ((v24.2.1 == (IntKind.wrap .i64 ((IntKind.wrap .i64 (s17 * (1000 : Int))) + s20))) && ((strEq v24.2.2.1 (ByteArray.mk #[])) && ((strEq v24.2.2.2.1 (ByteArray.mk #[])) && ((v24.2.2.2.2.1 == (0 : Int)) && (v24.2.2.2.2.2 == (0 : Int)))))))) (
  ret true) (
  bnd (ix 1 s8.1 s17) fun (p25 : Addr) =>
  bnd (ld .sl p25) fun (v26 : Sl) =>
  bnd (ix 6 v26 s20) fun (p27 : Addr) =>
  bnd (ld (.agg (.pair (.int .u8) (.pair (.int .i64) (.pair .str (.pair .str (.pair (.int .i64) (.int .i64))))))) p27) fun (v28 : (Int × (Int × (ByteArray × (ByteArray × (Int × Int)))))) =>
  ret (!((v28.1 == (0 : Int)) && ((v28.2.1 == (IntKind.wrap .i64 ((IntKind.wrap .i64 (s17 * (1000 : Int))) + s20))) && ((strEq v28.2.2.1 (ByteArray.mk #[])) && ((strEq v28.2.2.2.1 (ByteArray.mk #[])) && ((v28.2.2.2.2.1 == (0 : Int)) && (v28.2.2.2.2.2 == (0 : Int)))))))))) fun (b29 : Bool) =>
  cnd b29 (
  ret (Sum.inr (Sum.inr false))) (
  ret (Sum.inl (IntKind.wrap .i64 (s20 + (1 : Int)))))) (
  bnd (
  loopM (fun (s30 : Int) =>
  cnd (decide (s30 < (16 : Int))) (
  bnd (ix 1 s8.1 s17) fun (p31 : Addr) =>
  bnd (ld .sl p31) fun (v32 : Sl) =>
  bnd (ix 6 v32 (IntKind.wrap .i64 ((v19.len : Int) + s30))) fun (p33 : Addr) =>
  bnd (ld (.agg (.pair (.int .u8) (.pair (.int .i64) (.pair .str (.pair .str (.pair (.int .i64) (.int .i64))))))) p33) fun (v34 : (Int × (Int × (ByteArray × (ByteArray × (Int × Int)))))) =>
  cnd (!((v34.1 == (0 : Int)) && ((v34.2.1 == (IntKind.wrap .i64 ((IntKind.wrap .i64 ((IntKind.wrap .i64 ((-1 : Int) - s17)) * (1000 : Int))) - s30))) && ((strEq v34.2.2.1 (ByteArray.mk #[])) && ((strEq v34.2.2.2.1 (ByteArray.mk #[])) && ((v34.2.2.2.2.1 == (0 : Int)) && (v34.2.2.2.2.2 == (0 : Int)))))))) (
  ret (Sum.inr (Sum.inr false))) (
  ret (Sum.inl (IntKind.wrap .i64 (s30 + (1 : Int)))))) (
  ret (Sum.inr (Sum.inl (IntKind.wrap .i64 (s17 + (1 : Int))))))) (0 : Int)) fun r35 =>
  ret (Sum.inr r35))) (0 : Int)) (
  ret (Sum.inr true))) (0 : Int)) fun r36 =>
  ret (Sum.inr r36))) ((Sl.mk none 0 0), (0 : Int))) fun r37 =>
  ret (Sum.inr r37))) (0 : Int)
noncomputable def Af48_palaverref00_ownDeeds : Ann := (.two .nil (.two (.two .nil (.one (.loop [(3, (.int .i64))] [4, 13, 14, 15, 16, 17, 18, 19, 20, 21, 22, 23, 24, 25, 26, 27, 28, 29, 30, 31, 32, 33, 34, 35, 36, 37, 38] (.two (.two .nil (.two .nil .nil)) (.two (.one (.two .nil (.one (.loop [(4, (.int .i64))] [19, 20, 21, 22, 23, 24, 25, 26, 27, 28, 29, 30, 31, 32, 33, 34, 35, 36, 37, 38] (.two (.two .nil (.two .nil .nil)) (.two (.one .nil) .nil)))))) .nil))))) (.two .nil (.two (.two .nil (.one (.loop [(5, .sl), (6, (.int .i64))] [7, 8, 39, 40, 41, 42, 43, 44, 45, 46, 47, 48, 49, 50, 51, 52, 53, 54, 55, 56, 57, 58, 59, 60, 61, 62, 63, 64, 65] (.two (.two .nil (.two .nil .nil)) (.two (.one (.two .nil (.two (.two .nil (.one (.loop [(7, .sl), (8, (.int .i64))] [49, 50, 51, 52, 53, 54, 55, 56, 57, 58, 59, 60, 61] (.two (.two .nil (.two .nil .nil)) (.two (.one .nil) .nil))))) .nil))) .nil))))) (.two (.two .nil (.one (.loop [(9, (.int .i64))] [2, 10, 11, 12, 66, 67, 68, 69, 70, 71, 72, 73, 74, 75, 76, 77, 78, 79, 80, 81, 82, 83, 84, 85, 86, 87, 88, 89, 90, 91, 92, 93, 94, 95, 96, 97, 98, 99, 100, 101, 102, 103, 104, 105, 106, 107, 108, 109, 110, 111, 112, 113, 114, 115, 116, 117, 118, 119, 120, 121, 122, 123, 124, 125, 126, 127, 128, 129] (.two (.two .nil (.two .nil .nil)) (.two (.one (.two .nil (.two (.two .nil (.one (.loop [(11, (.int .i64))] [2, 77, 78, 79, 80, 81, 82, 83, 84, 85, 86, 87, 88, 89, 90, 91, 92, 93, 94, 95, 96, 97, 98, 99, 100, 101, 102, 103, 104, 105, 106, 107, 108, 109] (.two (.two .nil (.two .nil .nil)) (.two (.one (.two .nil (.two (.two .nil .nil) .nil))) .nil))))) (.two .nil (.one (.loop [(12, (.int .i64))] [2, 110, 111, 112, 113, 114, 115, 116, 117, 118, 119, 120, 121, 122, 123, 124, 125, 126, 127, 128, 129] (.two (.two .nil (.two .nil .nil)) (.two (.one (.two .nil (.two (.two .nil .nil) .nil))) .nil)))))))) .nil))))) (.two .nil .nil))))))
theorem Cf48_palaverref00_ownDeeds_ok : Cf48_palaverref00_ownDeeds.Ok := mkC_ok mixed tysOk zerosOk eqsOk trivial trivial
theorem Ef48_palaverref00_ownDeeds (x : Sl) : evF Cf48_palaverref00_ownDeeds Try.f48 130 .sl .bool Af48_palaverref00_ownDeeds x = f48_palaverref00_ownDeeds x := by kernel_rfl
theorem Sf48_palaverref00_ownDeeds : SoundF Try.prog 48 ⟨.sl, .bool, fun x => f48_palaverref00_ownDeeds x⟩ :=
  soundF_of Cf48_palaverref00_ownDeeds_ok Try.func48 (by kernel_rfl) (by kernel_rfl) Ef48_palaverref00_ownDeeds
/-- palaverpalaverref00.mark: nothing is said of it -/
noncomputable def f77_palaverref00_mark (x0 : Int) : M ByteArray := fail
theorem Sf77_palaverref00_mark : SoundF Try.prog 77 ⟨(.int .i64), .str, fun x => f77_palaverref00_mark x⟩ :=
  ⟨⟨_, Try.func77, by kernel_rfl, by kernel_rfl⟩, fun _ _ _ _ h => by cases h⟩
noncomputable def Cf49_palaverref00_ownFiles : Ctx := mkC Try.prog tys zeros eqs [(77, ⟨(.int .i64), .str, fun x => f77_palaverref00_mark x⟩)] []
/-- palaverpalaverref00.ownFiles -/
noncomputable def f49_palaverref00_ownFiles (x0 : Sl) : M Bool :=
  loopM (fun (s1 : Int) =>
  cnd (decide (s1 < (x0.len : Int))) (
  loopM (fun (s2 : Int) =>
  bnd (ix 1 x0 s1) fun (p3 : Addr) =>
  bnd (ld .sl p3) fun (v4 : Sl) =>
  cnd (decide (s2 < (v4.len : Int))) (
  bnd drawM fun _ =>
  bnd (ix 1 x0 s1) fun (p5 : Addr) =>
  bnd (ld .sl p5) fun (v6 : Sl) =>
  bnd (f77_palaverref00_mark (IntKind.wrap .i64 ((IntKind.wrap .i64 (s1 * (1000 : Int))) + s2))) fun (r7 : ByteArray) =>
  bnd (
  bnd (chk .sl p5 v6) fun _ =>
  ret ()) fun _ =>
  bnd (ix 2 v6 s2) fun (p8 : Addr) =>
  bnd (wrs p8 0 [.string r7, .string (ByteArray.mk #[])]) fun _ =>
  bnd (ret ()) fun _ =>
  ret (Sum.inl (IntKind.wrap .i64 (s2 + (1 : Int))))) (
  ret (Sum.inr (Sum.inl (IntKind.wrap .i64 (s1 + (1 : Int))))))) (0 : Int)) (
  bnd (
  loopM (fun (s9 : (Sl × Int)) =>
  cnd (decide (s9.2 < (x0.len : Int))) (
  bnd (ix 1 x0 s9.2) fun (p10 : Addr) =>
  bnd (ld .sl p10) fun (v11 : Sl) =>
  loopM (fun (s12 : (Sl × Int)) =>
  cnd (decide (s12.2 < (16 : Int))) (
  bnd (f77_palaverref00_mark (IntKind.wrap .i64 ((IntKind.wrap .i64 ((IntKind.wrap .i64 ((-1 : Int) - s9.2)) * (1000 : Int))) - s12.2))) fun (r13 : ByteArray) =>
  bnd (runV Try.prog .sl (Instr.buildSlice 98 1 #[(0, .agg #[.string r13, .string (ByteArray.mk #[])])])) fun (v14 : Sl) =>
  bnd (runV Try.prog .sl (Builtin.append_ #[98, 98] 98 #[.slice s12.1.a s12.1.len s12.1.cap, .slice v14.a v14.len v14.cap])) fun (v15 : Sl) =>
  ret (Sum.inl (v15, (IntKind.wrap .i64 (s12.2 + (1 : Int)))))) (
  bnd (
  bnd (runV Try.prog .sl (Instr.buildSlice 43 1 #[(0, .slice s12.1.a s12.1.len s12.1.cap)])) fun (v16 : Sl) =>
  bnd (runV Try.prog .sl (Builtin.append_ #[43, 43] 43 #[.slice s9.1.a s9.1.len s9.1.cap, .slice v16.a v16.len v16.cap])) fun (v17 : Sl) =>
  ret (Sum.inl (v17, (IntKind.wrap .i64 (s9.2 + (1 : Int)))))) fun r18 =>
  ret (Sum.inr r18))) (v11, (0 : Int))) (
  bnd (
  loopM (fun (s19 : Int) =>
  cnd (decide (s19 < (x0.len : Int))) (
  bnd (ix 1 x0 s19) fun (p20 : Addr) =>
  bnd (ld .sl p20) fun (v21 : Sl) =>
  loopM (fun (s22 : Int) =>
  cnd (decide (s22 < (v21.len : Int))) (
  bnd (
  bnd drawM fun _ =>
  bnd (ix 1 x0 s19) fun (p24 : Addr) =>
  bnd (ld .sl p24) fun (v25 : Sl) =>
  bnd (ix 2 v25 s22) fun (p26 : Addr) =>
  bnd (ld (.agg (.pair .str .str)) p26) fun (v27 : (ByteArray × ByteArray)) =>
  bnd (f77_palaverref00_mark (IntKind.wrap .i64 ((IntKind.wrap .i64 (s19 * (1000 : Int))) + s22))) fun (r28 : ByteArray) =>
  bnd (
  bnd (chk (.agg (.pair .str .str)) p26 v27) fun _ =>
  bnd (chk .sl p24 v25) fun _ =>
  ret ()) fun _ =>
  cnd (!((strEq v27.1 r28) && (strEq v27.2 (ByteArray.mk #[])))) (
  bnd (ret ()) fun _ =>
  ret true) (
  bnd (ix 1 s9.1 s19) fun (p29 : Addr) =>
  bnd (ld .sl p29) fun (v30 : Sl) =>
  bnd (ix 2 v30 s22) fun (p31 : Addr) =>
  bnd (ld (.agg (.pair .str .str)) p31) fun (v32 : (ByteArray × ByteArray)) =>
  bnd (f77_palaverref00_mark (IntKind.wrap .i64 ((IntKind.wrap .i64 (s19 * (1000 : Int))) + s22))) fun (r33 : ByteArray) =>
  bnd (
  bnd (chk (.agg (.pair .str .str)) p31 v32) fun _ =>
  bnd (chk .sl p29 v30) fun _ =>
  ret ()) fun _ =>
  ret (!((strEq v32.1 r33) && (strEq v32.2 (ByteArray.mk #[])))))) fun (s23 : Bool) =>
  cnd s23 (
  ret (Sum.inr (Sum.inr false))) (
  ret (Sum.inl (IntKind.wrap .i64 (s22 + (1 : Int)))))) (
  bnd (
  loopM (fun (s34 : Int) =>
  cnd (decide (s34 < (16 : Int))) (
  bnd drawM fun _ =>
  bnd (ix 1 s9.1 s19) fun (p35 : Addr) =>
  bnd (ld .sl p35) fun (v36 : Sl) =>
  bnd (ix 2 v36 (IntKind.wrap .i64 ((v21.len : Int) + s34))) fun (p37 : Addr) =>
  bnd (ld (.agg (.pair .str .str)) p37) fun (v38 : (ByteArray × ByteArray)) =>
  bnd (f77_palaverref00_mark (IntKind.wrap .i64 ((IntKind.wrap .i64 ((IntKind.wrap .i64 ((-1 : Int) - s19)) * (1000 : Int))) - s34))) fun (r39 : ByteArray) =>
  bnd (
  bnd (chk (.agg (.pair .str .str)) p37 v38) fun _ =>
  bnd (chk .sl p35 v36) fun _ =>
  ret ()) fun _ =>
  cnd (!((strEq v38.1 r39) && (strEq v38.2 (ByteArray.mk #[])))) (
  ret (Sum.inr (Sum.inr false))) (
  ret (Sum.inl (IntKind.wrap .i64 (s34 + (1 : Int)))))) (
  ret (Sum.inr (Sum.inl (IntKind.wrap .i64 (s19 + (1 : Int))))))) (0 : Int)) fun r40 =>
  ret (Sum.inr r40))) (0 : Int)) (
  ret (Sum.inr true))) (0 : Int)) fun r41 =>
  ret (Sum.inr r41))) ((Sl.mk none 0 0), (0 : Int))) fun r42 =>
  ret (Sum.inr r42))) (0 : Int)
noncomputable def Af49_palaverref00_ownFiles : Ann := (.two .nil (.two (.two .nil (.one (.loop [(3, (.int .i64))] [4, 13, 14, 15, 16, 17, 18, 19, 20, 21, 22, 23, 24, 25, 26, 27, 28, 29, 30, 31, 32, 33, 34, 35, 36, 37, 38, 39] (.two (.two .nil (.two .nil .nil)) (.two (.one (.two .nil (.one (.loop [(4, (.int .i64))] [19, 20, 21, 22, 23, 24, 25, 26, 27, 28, 29, 30, 31, 32, 33, 34, 35, 36, 37, 38, 39] (.two (.two .nil (.two .nil .nil)) (.two (.one (.draw [.o 0, .o 1, .o 2, .o 3, .o 4, .o 5, .o 6, .o 7, .o 8, .o 9, .o 10, .o 11, .o 12])) .nil)))))) .nil))))) (.two .nil (.two (.two .nil (.one (.loop [(5, .sl), (6, (.int .i64))] [7, 8, 40, 41, 42, 43, 44, 45, 46, 47, 48, 49, 50, 51, 52, 53, 54, 55, 56, 57, 58, 59, 60, 61, 62, 63, 64, 65, 66, 67] (.two (.two .nil (.two .nil .nil)) (.two (.one (.two .nil (.two (.two .nil (.one (.loop [(7, .sl), (8, (.int .i64))] [50, 51, 52, 53, 54, 55, 56, 57, 58, 59, 60, 61, 62, 63] (.two (.two .nil (.two .nil .nil)) (.two (.one .nil) .nil))))) .nil))) .nil))))) (.two (.two .nil (.one (.loop [(9, (.int .i64))] [2, 10, 11, 12, 68, 69, 70, 71, 72, 73, 74, 75, 76, 77, 78, 79, 80, 81, 82, 83, 84, 85, 86, 87, 88, 89, 90, 91, 92, 93, 94, 95, 96, 97, 98, 99, 100, 101, 102, 103, 104, 105, 106, 107, 108, 109, 110, 111, 112, 113, 114, 115, 116, 117, 118, 119, 120, 121, 122, 123, 124, 125, 126, 127, 128, 129, 130, 131, 132, 133, 134] (.two (.two .nil (.two .nil .nil)) (.two (.one (.two .nil (.two (.two .nil (.one (.loop [(11, (.int .i64))] [2, 79, 80, 81, 82, 83, 84, 85, 86, 87, 88, 89, 90, 91, 92, 93, 94, 95, 96, 97, 98, 99, 100, 101, 102, 103, 104, 105, 106, 107, 108, 109, 110, 111, 112, 113] (.two (.two .nil (.two .nil .nil)) (.two (.one (.two (.join [(113, .bool)] [84, 85, 86, 87, 88, 89, 90, 91, 92, 93, 94, 95, 96, 97, 98, 99, 100, 101, 102, 103, 104, 105, 106, 107, 108, 109, 110, 111, 112] false (.draw [.o 0, .o 1, .o 2, .o 3, .o 4, .o 5, .o 6, .o 7, .o 8, .o 9, .o 10, .o 11, .o 12, .o 13, .o 14, .s 98, .o 15, .o 16, .o 17, .o 18, .o 19, .o 20, .o 21, .o 22, .o 23, .o 24, .o 25, .o 26, .o 27, .o 28, .o 29])) (.two (.two .nil .nil) .nil))) .nil))))) (.two .nil (.one (.loop [(12, (.int .i64))] [2, 114, 115, 116, 117, 118, 119, 120, 121, 122, 123, 124, 125, 126, 127, 128, 129, 130, 131, 132, 133, 134] (.two (.two .nil (.two .nil .nil)) (.two (.one (.two (.draw [.o 0, .o 1, .o 2, .o 3, .o 4, .o 5, .o 6, .o 7, .o 8, .o 9, .o 10, .o 11, .o 12, .o 13, .o 14, .o 15, .o 16]) (.two (.two .nil .nil) .nil))) .nil)))))))) .nil))))) (.two .nil .nil))))))
theorem Cf49_palaverref00_ownFiles_ok : Cf49_palaverref00_ownFiles.Ok := mkC_ok mixed tysOk zerosOk eqsOk ⟨Sf77_palaverref00_mark, trivial⟩ trivial
theorem Ef49_palaverref00_ownFiles (x : Sl) : evF Cf49_palaverref00_ownFiles Try.f49 135 .sl .bool Af49_palaverref00_ownFiles x = f49_palaverref00_ownFiles x := by kernel_rfl
theorem Sf49_palaverref00_ownFiles : SoundF Try.prog 49 ⟨.sl, .bool, fun x => f49_palaverref00_ownFiles x⟩ :=
  soundF_of Cf49_palaverref00_ownFiles_ok Try.func49 (by kernel_rfl) (by kernel_rfl) Ef49_palaverref00_ownFiles
end Go.Proofs.Ytpgalllceejpnaa
