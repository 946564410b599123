/-
  Part of the proof: S01. It states what the functions do; no further condition.
-/
import Derived.Test.YtkkdeljladihpaaProg
import Derived.Test.YtkkdeljladihpaaShI
import Derived.KernelRfl
set_option linter.unusedVariables false
set_option linter.unusedSimpArgs false
namespace Go.Proofs.Ytkkdeljladihpaa
set_option linter.unusedVariables false
open Go.Sh
set_option maxRecDepth 100000
noncomputable def tys : List (Nat × Ty) := [(3, (.int .i64)),
  (4, .bool),
  (20, (.ifc 71 (.agg (.pair (.int .i64) (.pair (.int .i64) (.int .i64)))))),
  (22, .sl),
  (24, .ptr),
  (27, (.int .i64)),
  (30, (.agg (.pair (.int .i64) (.pair (.int .i64) (.int .i64))))),
  (31, .sl),
  (33, (.int .u8)),
  (49, .sl),
  (50, .sl),
  (53, .sl),
  (56, (.agg (.pair (.int .i64) (.pair (.int .i64) (.pair .sl (.pair .sl (.pair (.agg (.pair .sl (.pair .sl (.pair .sl (.pair .sl (.pair .sl (.pair .sl (.pair .sl (.pair .sl (.pair .sl (.pair .sl (.pair .sl (.pair .sl (.pair .sl (.pair .sl (.pair .sl (.pair .sl .sl))))))))))))))))) (.pair .sl (.pair (.int .i64) (.agg (.pair (.int .i64) (.pair (.int .i64) (.pair (.int .i64) (.pair (.int .i64) (.pair (.int .i64) (.pair (.int .i64) (.pair (.int .i64) (.pair (.int .i64) (.pair (.int .i64) (.pair (.int .i64) (.pair (.int .i64) (.pair (.int .i64) (.pair (.int .i64) (.pair (.int .i64) (.pair (.int .i64) (.pair (.int .i64) (.pair (.int .i64) (.pair (.int .i64) (.pair (.int .i64) (.pair (.int .i64) (.pair (.int .i64) (.pair (.int .i64) (.pair (.int .i64) (.pair (.int .i64) (.pair (.int .i64) (.pair (.int .i64) (.pair (.int .i64) (.pair (.int .i64) (.pair (.int .i64) (.pair (.int .i64) (.pair (.int .i64) (.pair (.int .i64) (.pair (.int .i64) (.pair (.int .i64) (.pair (.int .i64) (.pair (.int .i64) (.pair (.int .i64) (.pair (.int .i64) (.pair (.int .i64) (.pair (.int .i64) (.pair (.int .i64) (.pair (.int .i64) (.pair (.int .i64) (.pair (.int .i64) (.pair (.int .i64) (.pair (.int .i64) (.pair (.int .i64) (.pair (.int .i64) (.pair (.int .i64) (.pair (.int .i64) (.pair (.int .i64) (.pair (.int .i64) (.pair (.int .i64) (.pair (.int .i64) (.pair (.int .i64) (.pair (.int .i64) (.pair (.int .i64) (.pair (.int .i64) (.pair (.int .i64) (.pair (.int .i64) (.pair (.int .i64) (.pair (.int .i64) (.pair (.int .i64) (.int .i64)))))))))))))))))))))))))))))))))))))))))))))))))))))))))))))))))))))))))),
  (57, (.clo 61 .adr)),
  (58, .ptr),
  (61, (.agg (.pair (.int .i64) (.pair (.int .u8) (.int .i64))))),
  (62, .ptr),
  (66, (.agg (.pair (.int .i64) .sl))),
  (71, (.agg (.pair (.int .i64) (.pair (.int .i64) (.int .i64))))),
  (82, .ptr),
  (92, (.ifc 82 .ptr))]
theorem tysOk : AllN (fun T t => tyFitsB Try.prog T t = true) tys :=
  ⟨(by kernel_rfl : tyFitsB Try.prog 3 (.int .i64) = true),
   (by kernel_rfl : tyFitsB Try.prog 4 .bool = true),
   (by kernel_rfl : tyFitsB Try.prog 20 (.ifc 71 (.agg (.pair (.int .i64) (.pair (.int .i64) (.int .i64))))) = true),
   (by kernel_rfl : tyFitsB Try.prog 22 .sl = true),
   (by kernel_rfl : tyFitsB Try.prog 24 .ptr = true),
   (by kernel_rfl : tyFitsB Try.prog 27 (.int .i64) = true),
   (by kernel_rfl : tyFitsB Try.prog 30 (.agg (.pair (.int .i64) (.pair (.int .i64) (.int .i64)))) = true),
   (by kernel_rfl : tyFitsB Try.prog 31 .sl = true),
   (by kernel_rfl : tyFitsB Try.prog 33 (.int .u8) = true),
   (by kernel_rfl : tyFitsB Try.prog 49 .sl = true),
   (by kernel_rfl : tyFitsB Try.prog 50 .sl = true),
   (by kernel_rfl : tyFitsB Try.prog 53 .sl = true),
   (by kernel_rfl : tyFitsB Try.prog 56 (.agg (.pair (.int .i64) (.pair (.int .i64) (.pair .sl (.pair .sl (.pair (.agg (.pair .sl (.pair .sl (.pair .sl (.pair .sl (.pair .sl (.pair .sl (.pair .sl (.pair .sl (.pair .sl (.pair .sl (.pair .sl (.pair .sl (.pair .sl (.pair .sl (.pair .sl (.pair .sl .sl))))))))))))))))) (.pair .sl (.pair (.int .i64) (.agg (.pair (.int .i64) (.pair (.int .i64) (.pair (.int .i64) (.pair (.int .i64) (.pair (.int .i64) (.pair (.int .i64) (.pair (.int .i64) (.pair (.int .i64) (.pair (.int .i64) (.pair (.int .i64) (.pair (.int .i64) (.pair (.int .i64) (.pair (.int .i64) (.pair (.int .i64) (.pair (.int .i64) (.pair (.int .i64) (.pair (.int .i64) (.pair (.int .i64) (.pair (.int .i64) (.pair (.int .i64) (.pair (.int .i64) (.pair (.int .i64) (.pair (.int .i64) (.pair (.int .i64) (.pair (.int .i64) (.pair (.int .i64) (.pair (.int .i64) (.pair (.int .i64) (.pair (.int .i64) (.pair (.int .i64) (.pair (.int .i64) (.pair (.int .i64) (.pair (.int .i64) (.pair (.int .i64) (.pair (.int .i64) (.pair (.int .i64) (.pair (.int .i64) (.pair (.int .i64) (.pair (.int .i64) (.pair (.int .i64) (.pair (.int .i64) (.pair (.int .i64) (.pair (.int .i64) (.pair (.int .i64) (.pair (.int .i64) (.pair (.int .i64) (.pair (.int .i64) (.pair (.int .i64) (.pair (.int .i64) (.pair (.int .i64) (.pair (.int .i64) (.pair (.int .i64) (.pair (.int .i64) (.pair (.int .i64) (.pair (.int .i64) (.pair (.int .i64) (.pair (.int .i64) (.pair (.int .i64) (.pair (.int .i64) (.pair (.int .i64) (.pair (.int .i64) (.pair (.int .i64) (.pair (.int .i64) (.int .i64))))))))))))))))))))))))))))))))))))))))))))))))))))))))))))))))))))))))) = true),
   (by kernel_rfl : tyFitsB Try.prog 57 (.clo 61 .adr) = true),
   (by kernel_rfl : tyFitsB Try.prog 58 .ptr = true),
   (by kernel_rfl : tyFitsB Try.prog 61 (.agg (.pair (.int .i64) (.pair (.int .u8) (.int .i64)))) = true),
   (by kernel_rfl : tyFitsB Try.prog 62 .ptr = true),
   (by kernel_rfl : tyFitsB Try.prog 66 (.agg (.pair (.int .i64) .sl)) = true),
   (by kernel_rfl : tyFitsB Try.prog 71 (.agg (.pair (.int .i64) (.pair (.int .i64) (.int .i64)))) = true),
   (by kernel_rfl : tyFitsB Try.prog 82 .ptr = true),
   (by kernel_rfl : tyFitsB Try.prog 92 (.ifc 82 .ptr) = true), trivial⟩
noncomputable def zeros : List (Nat × TV) := [(30, ⟨(.agg (.pair (.int .i64) (.pair (.int .i64) (.int .i64)))), ((0 : Int), (0 : Int), (0 : Int))⟩),
  (56, ⟨(.agg (.pair (.int .i64) (.pair (.int .i64) (.pair .sl (.pair .sl (.pair (.agg (.pair .sl (.pair .sl (.pair .sl (.pair .sl (.pair .sl (.pair .sl (.pair .sl (.pair .sl (.pair .sl (.pair .sl (.pair .sl (.pair .sl (.pair .sl (.pair .sl (.pair .sl (.pair .sl .sl))))))))))))))))) (.pair .sl (.pair (.int .i64) (.agg (.pair (.int .i64) (.pair (.int .i64) (.pair (.int .i64) (.pair (.int .i64) (.pair (.int .i64) (.pair (.int .i64) (.pair (.int .i64) (.pair (.int .i64) (.pair (.int .i64) (.pair (.int .i64) (.pair (.int .i64) (.pair (.int .i64) (.pair (.int .i64) (.pair (.int .i64) (.pair (.int .i64) (.pair (.int .i64) (.pair (.int .i64) (.pair (.int .i64) (.pair (.int .i64) (.pair (.int .i64) (.pair (.int .i64) (.pair (.int .i64) (.pair (.int .i64) (.pair (.int .i64) (.pair (.int .i64) (.pair (.int .i64) (.pair (.int .i64) (.pair (.int .i64) (.pair (.int .i64) (.pair (.int .i64) (.pair (.int .i64) (.pair (.int .i64) (.pair (.int .i64) (.pair (.int .i64) (.pair (.int .i64) (.pair (.int .i64) (.pair (.int .i64) (.pair (.int .i64) (.pair (.int .i64) (.pair (.int .i64) (.pair (.int .i64) (.pair (.int .i64) (.pair (.int .i64) (.pair (.int .i64) (.pair (.int .i64) (.pair (.int .i64) (.pair (.int .i64) (.pair (.int .i64) (.pair (.int .i64) (.pair (.int .i64) (.pair (.int .i64) (.pair (.int .i64) (.pair (.int .i64) (.pair (.int .i64) (.pair (.int .i64) (.pair (.int .i64) (.pair (.int .i64) (.pair (.int .i64) (.pair (.int .i64) (.pair (.int .i64) (.pair (.int .i64) (.pair (.int .i64) (.pair (.int .i64) (.int .i64))))))))))))))))))))))))))))))))))))))))))))))))))))))))))))))))))))))))), ((0 : Int), (0 : Int), (Sl.mk none 0 0), (Sl.mk none 0 0), ((Sl.mk none 0 0), (Sl.mk none 0 0), (Sl.mk none 0 0), (Sl.mk none 0 0), (Sl.mk none 0 0), (Sl.mk none 0 0), (Sl.mk none 0 0), (Sl.mk none 0 0), (Sl.mk none 0 0), (Sl.mk none 0 0), (Sl.mk none 0 0), (Sl.mk none 0 0), (Sl.mk none 0 0), (Sl.mk none 0 0), (Sl.mk none 0 0), (Sl.mk none 0 0), (Sl.mk none 0 0)), (Sl.mk none 0 0), (0 : Int), (0 : Int), (0 : Int), (0 : Int), (0 : Int), (0 : Int), (0 : Int), (0 : Int), (0 : Int), (0 : Int), (0 : Int), (0 : Int), (0 : Int), (0 : Int), (0 : Int), (0 : Int), (0 : Int), (0 : Int), (0 : Int), (0 : Int), (0 : Int), (0 : Int), (0 : Int), (0 : Int), (0 : Int), (0 : Int), (0 : Int), (0 : Int), (0 : Int), (0 : Int), (0 : Int), (0 : Int), (0 : Int), (0 : Int), (0 : Int), (0 : Int), (0 : Int), (0 : Int), (0 : Int), (0 : Int), (0 : Int), (0 : Int), (0 : Int), (0 : Int), (0 : Int), (0 : Int), (0 : Int), (0 : Int), (0 : Int), (0 : Int), (0 : Int), (0 : Int), (0 : Int), (0 : Int), (0 : Int), (0 : Int), (0 : Int), (0 : Int), (0 : Int), (0 : Int), (0 : Int), (0 : Int), (0 : Int), (0 : Int), (0 : Int))⟩),
  (61, ⟨(.agg (.pair (.int .i64) (.pair (.int .u8) (.int .i64)))), ((0 : Int), (0 : Int), (0 : Int))⟩),
  (66, ⟨(.agg (.pair (.int .i64) .sl)), ((0 : Int), (Sl.mk none 0 0))⟩),
  (71, ⟨(.agg (.pair (.int .i64) (.pair (.int .i64) (.int .i64)))), ((0 : Int), (0 : Int), (0 : Int))⟩)]
theorem zerosOk : AllN (fun T (z : TV) => ∃ i, Try.prog.info? T = some i ∧ i.zero = some z.v) zeros :=
  ⟨⟨_, (by kernel_rfl : Try.prog.info? 30 = some Try.t30), rfl⟩,
   ⟨_, (by kernel_rfl : Try.prog.info? 56 = some Try.t56), rfl⟩,
   ⟨_, (by kernel_rfl : Try.prog.info? 61 = some Try.t61), rfl⟩,
   ⟨_, (by kernel_rfl : Try.prog.info? 66 = some Try.t66), rfl⟩,
   ⟨_, (by kernel_rfl : Try.prog.info? 71 = some Try.t71), rfl⟩, trivial⟩
noncomputable def eqs : List (Nat × Ty) := []
theorem eqsOk : AllN (EqOk Try.prog) eqs := trivial
theorem mixed : Try.prog.follows .mixedOrders = true := by kernel_rfl
noncomputable def Cf8_sched_New : Ctx := mkC Try.prog tys zeros eqs [] []
/-- palaversched.New -/
noncomputable def f8_sched_New : M (Option Addr) :=
  bnd (newC 56 [.int .i64 (0 : Int), .int .i64 (0 : Int), .slice none 0 0, .slice none 0 0, .slice none 0 0, .slice none 0 0, .slice none 0 0, .slice none 0 0, .slice none 0 0, .slice none 0 0, .slice none 0 0, .slice none 0 0, .slice none 0 0, .slice none 0 0, .slice none 0 0, .slice none 0 0, .slice none 0 0, .slice none 0 0, .slice none 0 0, .slice none 0 0, .slice none 0 0, .slice none 0 0, .int .i64 (0 : Int), .int .i64 (0 : Int), .int .i64 (0 : Int), .int .i64 (0 : Int), .int .i64 (0 : Int), .int .i64 (0 : Int), .int .i64 (0 : Int), .int .i64 (0 : Int), .int .i64 (0 : Int), .int .i64 (0 : Int), .int .i64 (0 : Int), .int .i64 (0 : Int), .int .i64 (0 : Int), .int .i64 (0 : Int), .int .i64 (0 : Int), .int .i64 (0 : Int), .int .i64 (0 : Int), .int .i64 (0 : Int), .int .i64 (0 : Int), .int .i64 (0 : Int), .int .i64 (0 : Int), .int .i64 (0 : Int), .int .i64 (0 : Int), .int .i64 (0 : Int), .int .i64 (0 : Int), .int .i64 (0 : Int), .int .i64 (0 : Int), .int .i64 (0 : Int), .int .i64 (0 : Int), .int .i64 (0 : Int), .int .i64 (0 : Int), .int .i64 (0 : Int), .int .i64 (0 : Int), .int .i64 (0 : Int), .int .i64 (0 : Int), .int .i64 (0 : Int), .int .i64 (0 : Int), .int .i64 (0 : Int), .int .i64 (0 : Int), .int .i64 (0 : Int), .int .i64 (0 : Int), .int .i64 (0 : Int), .int .i64 (0 : Int), .int .i64 (0 : Int), .int .i64 (0 : Int), .int .i64 (0 : Int), .int .i64 (0 : Int), .int .i64 (0 : Int), .int .i64 (0 : Int), .int .i64 (0 : Int), .int .i64 (0 : Int), .int .i64 (0 : Int), .int .i64 (0 : Int), .int .i64 (0 : Int), .int .i64 (0 : Int), .int .i64 (0 : Int), .int .i64 (0 : Int), .int .i64 (0 : Int), .int .i64 (0 : Int), .int .i64 (0 : Int), .int .i64 (0 : Int), .int .i64 (0 : Int), .int .i64 (0 : Int), .int .i64 (0 : Int), .int .i64 (0 : Int)]) fun (p1 : Addr) =>
  ret (some p1)
noncomputable def Af8_sched_New : Ann := (.two .nil (.two .nil .nil))
theorem Cf8_sched_New_ok : Cf8_sched_New.Ok := mkC_ok mixed tysOk zerosOk eqsOk trivial trivial
theorem Ef8_sched_New (x : Unit) : evF Cf8_sched_New Try.f8 3 .unit .ptr Af8_sched_New x = f8_sched_New := by kernel_rfl
theorem Sf8_sched_New : SoundF Try.prog 8 ⟨.unit, .ptr, fun _ => f8_sched_New⟩ :=
  soundF_of Cf8_sched_New_ok Try.func8 (by kernel_rfl) (by kernel_rfl) Ef8_sched_New
noncomputable def Cf48_sched_Sched_highest : Ctx := mkC Try.prog tys zeros eqs [] []
/-- (*palaversched.Sched).highest -/
noncomputable def f48_sched_Sched_highest (x0 : Option Addr) : M Int :=
  loopM (fun (s1 : Int) =>
  cnd (decide (s1 > (0 : Int))) (
  bnd (drf x0) fun (p2 : Addr) =>
  bnd (ixA 17 1 (Addr.add p2 4) s1) fun (p3 : Addr) =>
  bnd (ld .sl p3) fun (v4 : Sl) =>
  cnd (decide ((v4.len : Int) > (0 : Int))) (
  ret (Sum.inr s1)) (
  ret (Sum.inl (IntKind.wrap .i64 (s1 - (1 : Int)))))) (
  ret (Sum.inr (0 : Int)))) (16 : Int)
noncomputable def Af48_sched_Sched_highest : Ann := (.two .nil (.two (.two .nil (.one (.loop [(3, (.int .i64))] [2, 4, 5, 6, 7, 8, 9, 10, 11, 12, 13, 14, 15, 16] (.two (.two .nil (.two .nil .nil)) (.two (.one (.two .nil (.two (.two .nil .nil) .nil))) .nil))))) (.two .nil .nil)))
theorem Cf48_sched_Sched_highest_ok : Cf48_sched_Sched_highest.Ok := mkC_ok mixed tysOk zerosOk eqsOk trivial trivial
theorem Ef48_sched_Sched_highest (x : Option Addr) : evF Cf48_sched_Sched_highest Try.f48 17 .ptr (.int .i64) Af48_sched_Sched_highest x = f48_sched_Sched_highest x := by kernel_rfl
theorem Sf48_sched_Sched_highest : SoundF Try.prog 48 ⟨.ptr, (.int .i64), fun x => f48_sched_Sched_highest x⟩ :=
  soundF_of Cf48_sched_Sched_highest_ok Try.func48 (by kernel_rfl) (by kernel_rfl) Ef48_sched_Sched_highest
noncomputable def Cf30_sched_Sched_of : Ctx := mkC Try.prog tys zeros eqs [] []
/-- (*palaversched.Sched).of -/
noncomputable def f30_sched_Sched_of (x0 : Option Addr) (x1 : Int) : M (Option Addr) :=
  bnd (drf x0) fun (p1 : Addr) =>
  bnd (ld .sl (Addr.add p1 2)) fun (v2 : Sl) =>
  bnd (ix 3 v2 (IntKind.wrap .i64 (x1 - (1 : Int)))) fun (p3 : Addr) =>
  ret (some p3)
noncomputable def Af30_sched_Sched_of : Ann := (.two .nil (.two .nil .nil))
theorem Cf30_sched_Sched_of_ok : Cf30_sched_Sched_of.Ok := mkC_ok mixed tysOk zerosOk eqsOk trivial trivial
theorem Ef30_sched_Sched_of (x : (Option Addr × Int)) : evF Cf30_sched_Sched_of Try.f30 12 (.pair .ptr (.int .i64)) .ptr Af30_sched_Sched_of x = f30_sched_Sched_of x.1 x.2 := by kernel_rfl
theorem Sf30_sched_Sched_of : SoundF Try.prog 30 ⟨(.pair .ptr (.int .i64)), .ptr, fun x => f30_sched_Sched_of x.1 x.2⟩ :=
  soundF_of Cf30_sched_Sched_of_ok Try.func30 (by kernel_rfl) (by kernel_rfl) Ef30_sched_Sched_of
noncomputable def Cf32_slices_Cloneint_int : Ctx := mkC Try.prog tys zeros eqs [] []
/-- slices.Cloneintint -/
noncomputable def f32_slices_Cloneint_int (x0 : Sl) : M Sl :=
  cnd (Option.isNone x0.a) (
  ret (Sl.mk none 0 0)) (
  bnd (runV Try.prog .sl (Instr.buildSlice 31 0 #[])) fun (v1 : Sl) =>
  bnd (runV Try.prog .sl (Builtin.append_ #[31, 31] 31 #[.slice v1.a v1.len v1.cap, .slice x0.a x0.len x0.cap])) fun (v2 : Sl) =>
  ret v2)
noncomputable def Af32_slices_Cloneint_int : Ann := (.two .nil (.two (.two .nil (.two (.two .nil .nil) .nil)) (.two .nil .nil)))
theorem Cf32_slices_Cloneint_int_ok : Cf32_slices_Cloneint_int.Ok := mkC_ok mixed tysOk zerosOk eqsOk trivial trivial
theorem Ef32_slices_Cloneint_int (x : Sl) : evF Cf32_slices_Cloneint_int Try.f32 8 .sl .sl Af32_slices_Cloneint_int x = f32_slices_Cloneint_int x := by kernel_rfl
theorem Sf32_slices_Cloneint_int : SoundF Try.prog 32 ⟨.sl, .sl, fun x => f32_slices_Cloneint_int x⟩ :=
  soundF_of Cf32_slices_Cloneint_int_ok Try.func32 (by kernel_rfl) (by kernel_rfl) Ef32_slices_Cloneint_int
noncomputable def Cf33_sched_Sched_runs : Ctx := mkC Try.prog tys zeros eqs [(30, ⟨(.pair .ptr (.int .i64)), .ptr, fun x => f30_sched_Sched_of x.1 x.2⟩), (32, ⟨.sl, .sl, fun x => f32_slices_Cloneint_int x⟩), (48, ⟨.ptr, (.int .i64), fun x => f48_sched_Sched_highest x⟩)] []
/-- (*palaversched.Sched).runs -/
noncomputable def f33_sched_Sched_runs (x0 : Option Addr) : M Unit :=
  bnd (f48_sched_Sched_highest x0) fun (r1 : Int) =>
  bnd (drf x0) fun (p2 : Addr) =>
  bnd (ld (.int .i64) (Addr.add p2 1)) fun (v3 : Int) =>
  bnd (
  cnd (decide (v3 > (0 : Int))) (
  bnd (drf x0) fun (p5 : Addr) =>
  bnd (ld (.int .i64) (Addr.add p5 1)) fun (v6 : Int) =>
  bnd (f30_sched_Sched_of x0 v6) fun (r7 : Option Addr) =>
  bnd (drf r7) fun (p8 : Addr) =>
  bnd (ld (.int .i64) (Addr.add p8 0)) fun (v9 : Int) =>
  cnd (decide (r1 ≤ v9)) (
  ret (Sum.inr ())) (
  bnd (drf r7) fun (p11 : Addr) =>
  bnd (wrs (Addr.add p11 1) 0 [.int .u8 (1 : Int)]) fun _ =>
  bnd (
  bnd (ordM 33 5 (regionIn 5 Try.f33)) fun (o13 : List Nat) =>
  bnd (drf r7) fun (p14 : Addr) =>
  bnd (ld (.int .i64) (Addr.add p14 0)) fun (v15 : Int) =>
  bnd (drf x0) fun (p16 : Addr) =>
  bnd (ld (.int .i64) (Addr.add p16 1)) fun (v17 : Int) =>
  bnd (drf r7) fun (p18 : Addr) =>
  bnd (ld (.int .i64) (Addr.add p18 0)) fun (v19 : Int) =>
  bnd (drf x0) fun (p20 : Addr) =>
  bnd (ixA 17 1 (Addr.add p20 4) v19) fun (p21 : Addr) =>
  bnd (ld .sl p21) fun (v22 : Sl) =>
  bnd (drf x0) fun (p23 : Addr) =>
  bnd (runV Try.prog .sl (Instr.buildSlice 31 1 #[(0, .int .i64 v17)])) fun (v24 : Sl) =>
  bnd (
  bnd (chk .sl p21 v22) fun _ =>
  bnd (chk (.int .i64) (Addr.add p18 0) v19) fun _ =>
  bnd (chk (.int .i64) (Addr.add p14 0) v15) fun _ =>
  ret ()) fun _ =>
  bnd (runV Try.prog .sl (Builtin.append_ #[31, 31] 31 #[.slice v24.a v24.len v24.cap, .slice v22.a v22.len v22.cap])) fun (v25 : Sl) =>
  bnd (
  bnd (chk (.int .i64) (Addr.add p18 0) v19) fun _ =>
  bnd (chk (.int .i64) (Addr.add p14 0) v15) fun _ =>
  ret ()) fun _ =>
  bnd (ixA 17 1 (Addr.add p23 4) v15) fun (p26 : Addr) =>
  bnd (wrs p26 0 [.slice v25.a v25.len v25.cap]) fun _ =>
  bnd (ret ()) fun _ =>
  ret ()) fun (s12 : Unit) =>
  bnd (drf x0) fun (p27 : Addr) =>
  bnd (wrs (Addr.add p27 1) 0 [.int .i64 (0 : Int)]) fun _ =>
  ret (Sum.inl ()))) (
  ret (Sum.inl ()))) (fun
  | .inl (s4 : Unit) =>
  bnd (
  cnd (decide (r1 > (0 : Int))) (
  bnd (
  bnd (ordM 33 8 (regionIn 8 Try.f33)) fun (o31 : List Nat) =>
  bnd (drf x0) fun (p32 : Addr) =>
  bnd (ixA 17 1 (Addr.add p32 4) r1) fun (p33 : Addr) =>
  bnd (ld .sl p33) fun (v34 : Sl) =>
  bnd (ix 1 v34 (0 : Int)) fun (p35 : Addr) =>
  bnd (ld (.int .i64) p35) fun (v36 : Int) =>
  bnd (drf x0) fun (p37 : Addr) =>
  bnd (ixA 17 1 (Addr.add p37 4) r1) fun (p38 : Addr) =>
  bnd (ld .sl p38) fun (v39 : Sl) =>
  bnd (slc 1 v39 (some (1 : Int)) none none) fun (v40 : Sl) =>
  bnd (drf x0) fun (p41 : Addr) =>
  bnd (f32_slices_Cloneint_int v40) fun (r42 : Sl) =>
  bnd (
  bnd (chk .sl p38 v39) fun _ =>
  bnd (chk (.int .i64) p35 v36) fun _ =>
  bnd (chk .sl p33 v34) fun _ =>
  ret ()) fun _ =>
  bnd (drf x0) fun (p43 : Addr) =>
  bnd (wrs (Addr.add p43 1) 0 [.int .i64 v36]) fun _ =>
  bnd (ret ()) fun _ =>
  bnd (ixA 17 1 (Addr.add p41 4) r1) fun (p44 : Addr) =>
  bnd (wrs p44 0 [.slice r42.a r42.len r42.cap]) fun _ =>
  bnd (ret ()) fun _ =>
  ret ()) fun (s30 : Unit) =>
  bnd (drf x0) fun (p45 : Addr) =>
  bnd (ld (.int .i64) (Addr.add p45 1)) fun (v46 : Int) =>
  bnd (f30_sched_Sched_of x0 v46) fun (r47 : Option Addr) =>
  bnd (drf r47) fun (p48 : Addr) =>
  bnd (wrs (Addr.add p48 1) 0 [.int .u8 (2 : Int)]) fun _ =>
  ret ()) (
  ret ())) fun (s29 : Unit) =>
  ret ()
  | .inr r49 => ret r49)
noncomputable def Af33_sched_Sched_runs : Ann := (.two .nil (.two (.two .nil (.join [] [3, 11, 12, 13, 14, 15, 16, 17, 18, 19, 20, 21, 22, 23, 24, 25, 26, 27, 28, 29, 30, 31, 32, 33, 34, 35, 36, 37, 38, 39, 40, 41, 42, 43, 44, 45, 46, 47, 48, 49, 50, 51] true (.two (.two .nil (.two (.two .nil (.two .nil .nil)) (.two .nil (.two (.join [] [26, 27, 28, 29, 30, 31, 32, 33, 34, 35, 36, 37, 38, 39, 40, 41, 42, 43, 44, 45, 46, 47, 48] false (.ord 33 [(0, 16777214), (0, 16777213), (2, 16777209), (4, 16777203), (8, 16777191), (0, 16777183), (32, 16777119), (64, 16777023), (128, 16776831), (256, 16776447), (0, 16776191), (0, 16775167), (2048, 16771071), (4096, 16764927), (8192, 16752639), (1024, 16743423), (32768, 16678911), (81920, 16564223), (131072, 16383999), (262656, 15990271), (1, 15728638), (1048576, 13631487), (3145727, 10485743), (5242879, 3670015)] (.o 0 (.o 1 (.o 2 (.o 3 (.o 4 (.o 5 (.o 6 (.o 7 (.o 8 (.o 10 (.o 11 (.o 12 (.o 13 (.o 14 (.o 15 (.o 16 (.o 17 (.o 18 (.o 20 (.o 21 (.o 9 (.o 19 (.o 22 (.o 23 .done)))))))))))))))))))))))))) .nil)))) .nil))) (.two .nil (.join [] [54, 55, 56, 57, 58, 59, 60, 61, 62, 63, 64, 65, 66, 67, 68, 69, 70, 71, 72, 73, 74, 75, 76, 77, 78, 79, 80, 81, 82, 83, 84, 85] false (.two (.two (.join [] [54, 55, 56, 57, 58, 59, 60, 61, 62, 63, 64, 65, 66, 67, 68, 69, 70, 71, 72, 73, 74, 75, 76, 77] false (.ord 33 [(0, 67108862), (0, 67108861), (0, 67108859), (0, 67108855), (0, 67108847), (8, 67108823), (32, 67108767), (80, 67108655), (128, 67108479), (256, 67108095), (512, 67107327), (0, 67106815), (0, 67104767), (2048, 67098623), (8192, 67084287), (20480, 67055615), (32768, 67010559), (65536, 66912255), (131072, 66715647), (329721, 66584574), (854009, 65535999), (1378297, 63962111), (2, 62914557), (4194304, 54525951), (12582911, 41943035), (20971519, 16515071)] (.o 0 (.o 1 (.o 2 (.o 3 (.o 4 (.o 5 (.o 6 (.o 7 (.o 8 (.o 9 (.o 10 (.o 11 (.o 12 (.o 13 (.o 14 (.o 15 (.o 16 (.o 17 (.o 22 (.o 23 (.o 18 (.o 19 (.o 20 (.o 21 (.o 24 (.o 25 .done)))))))))))))))))))))))))))) .nil) .nil)))))
theorem Cf33_sched_Sched_runs_ok : Cf33_sched_Sched_runs.Ok := mkC_ok mixed tysOk zerosOk eqsOk ⟨Sf30_sched_Sched_of, Sf32_slices_Cloneint_int, Sf48_sched_Sched_highest, trivial⟩ trivial
theorem Ef33_sched_Sched_runs (x : Option Addr) : evF Cf33_sched_Sched_runs Try.f33 86 .ptr (.tup .unit) Af33_sched_Sched_runs x = f33_sched_Sched_runs x := by kernel_rfl
theorem Sf33_sched_Sched_runs : SoundF Try.prog 33 ⟨.ptr, (.tup .unit), fun x => f33_sched_Sched_runs x⟩ :=
  soundF_of Cf33_sched_Sched_runs_ok Try.func33 (by kernel_rfl) (by kernel_rfl) Ef33_sched_Sched_runs
theorem EDf33_sched_Sched_runs (x : Option Addr) : evF0 Cf33_sched_Sched_runs Try.f33 86 .ptr (.tup .unit) Af33_sched_Sched_runs x = f33_sched_Sched_runs x := by kernel_rfl
theorem SDf33 : SoundD Try.prog 33 ⟨.ptr, (.tup .unit), fun x => f33_sched_Sched_runs x⟩ :=
  soundD_of Cf33_sched_Sched_runs_ok Try.func33 (by kernel_rfl) (by kernel_rfl) EDf33_sched_Sched_runs
noncomputable def Cf34_sched_Sched_ready : Ctx := mkC Try.prog tys zeros eqs [(30, ⟨(.pair .ptr (.int .i64)), .ptr, fun x => f30_sched_Sched_of x.1 x.2⟩)] []
/-- (*palaversched.Sched).ready -/
noncomputable def f34_sched_Sched_ready (x0 : Option Addr) (x1 : Int) : M Unit :=
  bnd (f30_sched_Sched_of x0 x1) fun (r1 : Option Addr) =>
  bnd (drf r1) fun (p2 : Addr) =>
  bnd (wrs (Addr.add p2 1) 0 [.int .u8 (1 : Int)]) fun _ =>
  bnd (drf r1) fun (p3 : Addr) =>
  bnd (wrs (Addr.add p3 2) 0 [.int .i64 (0 : Int)]) fun _ =>
  bnd (
  bnd (ordM 34 2 (regionIn 2 Try.f34)) fun (o5 : List Nat) =>
  bnd (drf r1) fun (p6 : Addr) =>
  bnd (ld (.int .i64) (Addr.add p6 0)) fun (v7 : Int) =>
  bnd (drf r1) fun (p8 : Addr) =>
  bnd (ld (.int .i64) (Addr.add p8 0)) fun (v9 : Int) =>
  bnd (drf x0) fun (p10 : Addr) =>
  bnd (ixA 17 1 (Addr.add p10 4) v9) fun (p11 : Addr) =>
  bnd (ld .sl p11) fun (v12 : Sl) =>
  bnd (drf x0) fun (p13 : Addr) =>
  bnd (runV Try.prog .sl (Instr.buildSlice 31 1 #[(0, .int .i64 x1)])) fun (v14 : Sl) =>
  bnd (
  bnd (chk .sl p11 v12) fun _ =>
  bnd (chk (.int .i64) (Addr.add p8 0) v9) fun _ =>
  bnd (chk (.int .i64) (Addr.add p6 0) v7) fun _ =>
  ret ()) fun _ =>
  bnd (runV Try.prog .sl (Builtin.append_ #[31, 31] 31 #[.slice v12.a v12.len v12.cap, .slice v14.a v14.len v14.cap])) fun (v15 : Sl) =>
  bnd (
  bnd (chk (.int .i64) (Addr.add p8 0) v9) fun _ =>
  bnd (chk (.int .i64) (Addr.add p6 0) v7) fun _ =>
  ret ()) fun _ =>
  bnd (ixA 17 1 (Addr.add p13 4) v7) fun (p16 : Addr) =>
  bnd (wrs p16 0 [.slice v15.a v15.len v15.cap]) fun _ =>
  bnd (ret ()) fun _ =>
  ret ()) fun (s4 : Unit) =>
  ret ()
noncomputable def Af34_sched_Sched_ready : Ann := (.two .nil (.two .nil (.join [] [14, 15, 16, 17, 18, 19, 20, 21, 22, 23, 24, 25, 26, 27, 28, 29, 30, 31, 32, 33] false (.ord 34 [(0, 2097150), (0, 2097149), (2, 2097145), (4, 2097139), (8, 2097127), (0, 2097119), (0, 2097087), (64, 2096959), (128, 2096767), (256, 2096383), (32, 2096095), (1024, 2094079), (2560, 2090495), (4096, 2084863), (0, 2080767), (16384, 2047999), (40960, 1990655), (1, 1966078), (131072, 1703935), (393215, 1310703), (655359, 458751)] (.o 0 (.o 1 (.o 2 (.o 3 (.o 4 (.o 5 (.o 6 (.o 7 (.o 8 (.o 9 (.o 10 (.o 11 (.o 12 (.o 13 (.o 14 (.o 17 (.o 18 (.o 15 (.o 16 (.o 19 (.o 20 .done)))))))))))))))))))))))))
theorem Cf34_sched_Sched_ready_ok : Cf34_sched_Sched_ready.Ok := mkC_ok mixed tysOk zerosOk eqsOk ⟨Sf30_sched_Sched_of, trivial⟩ trivial
theorem Ef34_sched_Sched_ready (x : (Option Addr × Int)) : evF Cf34_sched_Sched_ready Try.f34 34 (.pair .ptr (.int .i64)) (.tup .unit) Af34_sched_Sched_ready x = f34_sched_Sched_ready x.1 x.2 := by kernel_rfl
theorem Sf34_sched_Sched_ready : SoundF Try.prog 34 ⟨(.pair .ptr (.int .i64)), (.tup .unit), fun x => f34_sched_Sched_ready x.1 x.2⟩ :=
  soundF_of Cf34_sched_Sched_ready_ok Try.func34 (by kernel_rfl) (by kernel_rfl) Ef34_sched_Sched_ready
noncomputable def Bf18_sched_Sched_Fork : Ctx := mkC Try.prog tys zeros eqs [(34, ⟨(.pair .ptr (.int .i64)), (.tup .unit), fun x => f34_sched_Sched_ready x.1 x.2⟩)] []
noncomputable def Cf18_sched_Sched_Fork : Ctx := Bf18_sched_Sched_Fork.with [(33, ⟨.ptr, (.tup .unit), fun x => f33_sched_Sched_runs x⟩)] []
/-- (*palaversched.Sched).Fork -/
noncomputable def f18_sched_Sched_Fork (x0 : Option Addr) (x1 : Int) : M (Int × Int) :=
  cnd (cond (decide (x1 < (1 : Int))) true (decide (x1 > (16 : Int)))) (
  ret ((0 : Int), (1 : Int))) (
  bnd (drf x0) fun (p1 : Addr) =>
  bnd (ld .sl (Addr.add p1 2)) fun (v2 : Sl) =>
  cnd (decide ((v2.len : Int) ≥ (4096 : Int))) (
  ret ((0 : Int), (264 : Int))) (
  bnd (drf x0) fun (p3 : Addr) =>
  bnd (ld .sl (Addr.add p3 2)) fun (v4 : Sl) =>
  bnd (runV Try.prog .sl (Instr.buildSlice 49 1 #[(0, .agg #[.int .i64 x1, .int .u8 (0 : Int), .int .i64 (0 : Int)])])) fun (v5 : Sl) =>
  bnd (runV Try.prog .sl (Builtin.append_ #[49, 49] 49 #[.slice v4.a v4.len v4.cap, .slice v5.a v5.len v5.cap])) fun (v6 : Sl) =>
  bnd (drf x0) fun (p7 : Addr) =>
  bnd (wrs (Addr.add p7 2) 0 [.slice v6.a v6.len v6.cap]) fun _ =>
  bnd (drf x0) fun (p8 : Addr) =>
  bnd (ld .sl (Addr.add p8 2)) fun (v9 : Sl) =>
  bnd (f34_sched_Sched_ready x0 (v9.len : Int)) fun (r10 : Unit) =>
  bnd (drf x0) fun (p11 : Addr) =>
  bnd (ld .sl (Addr.add p11 2)) fun (v12 : Sl) =>
  bnd (f33_sched_Sched_runs x0) fun _ =>
  ret ((v12.len : Int), (0 : Int))))
noncomputable def Af18_sched_Sched_Fork : Ann := (.two .nil (.two (.one (.two .nil (.two (.two .nil .nil) (.two .nil (.two (.two .nil .nil) .nil))))) (.two .dfr (.two .nil (.two .nil (.two .nil .nil))))))
theorem Bf18_sched_Sched_Fork_ok : Bf18_sched_Sched_Fork.Ok := mkC_ok mixed tysOk zerosOk eqsOk ⟨Sf34_sched_Sched_ready, trivial⟩ trivial
theorem Cf18_sched_Sched_Fork_ok : Cf18_sched_Sched_Fork.Ok := with_ok Bf18_sched_Sched_Fork_ok ⟨SDf33, trivial⟩ trivial
theorem Ef18_sched_Sched_Fork (x : (Option Addr × Int)) : evF Cf18_sched_Sched_Fork Try.f18 44 (.pair .ptr (.int .i64)) (.tup (.pair (.int .i64) (.int .i64))) Af18_sched_Sched_Fork x = f18_sched_Sched_Fork x.1 x.2 := by kernel_rfl
theorem Sf18_sched_Sched_Fork : SoundF Try.prog 18 ⟨(.pair .ptr (.int .i64)), (.tup (.pair (.int .i64) (.int .i64))), fun x => f18_sched_Sched_Fork x.1 x.2⟩ :=
  soundF_of Cf18_sched_Sched_Fork_ok Try.func18 (by kernel_rfl) (by kernel_rfl) Ef18_sched_Sched_Fork
noncomputable def Cf9_sched_Sched_Active : Ctx := mkC Try.prog tys zeros eqs [] []
/-- (*palaversched.Sched).Active -/
noncomputable def f9_sched_Sched_Active (x0 : Option Addr) : M Int :=
  bnd (drf x0) fun (p1 : Addr) =>
  bnd (ld (.int .i64) (Addr.add p1 1)) fun (v2 : Int) =>
  ret v2
noncomputable def Af9_sched_Sched_Active : Ann := (.two .nil (.two .nil .nil))
theorem Cf9_sched_Sched_Active_ok : Cf9_sched_Sched_Active.Ok := mkC_ok mixed tysOk zerosOk eqsOk trivial trivial
theorem Ef9_sched_Sched_Active (x : Option Addr) : evF Cf9_sched_Sched_Active Try.f9 7 .ptr (.int .i64) Af9_sched_Sched_Active x = f9_sched_Sched_Active x := by kernel_rfl
theorem Sf9_sched_Sched_Active : SoundF Try.prog 9 ⟨.ptr, (.int .i64), fun x => f9_sched_Sched_Active x⟩ :=
  soundF_of Cf9_sched_Sched_Active_ok Try.func9 (by kernel_rfl) (by kernel_rfl) Ef9_sched_Sched_Active
noncomputable def Cf11_sched_Sched_Ready : Ctx := mkC Try.prog tys zeros eqs [] []
/-- (*palaversched.Sched).Ready -/
noncomputable def f11_sched_Sched_Ready (x0 : Option Addr) : M Sl :=
  loopM (fun (s1 : (Sl × Int)) =>
  cnd (decide (s1.2 > (0 : Int))) (
  bnd (drf x0) fun (p2 : Addr) =>
  bnd (ixA 17 1 (Addr.add p2 4) s1.2) fun (p3 : Addr) =>
  bnd (ld .sl p3) fun (v4 : Sl) =>
  bnd (runV Try.prog .sl (Builtin.append_ #[31, 31] 31 #[.slice s1.1.a s1.1.len s1.1.cap, .slice v4.a v4.len v4.cap])) fun (v5 : Sl) =>
  ret (Sum.inl (v5, (IntKind.wrap .i64 (s1.2 - (1 : Int)))))) (
  ret (Sum.inr s1.1))) ((Sl.mk none 0 0), (16 : Int))
noncomputable def Af11_sched_Sched_Ready : Ann := (.two .nil (.two (.two .nil (.one (.loop [(2, .sl), (3, (.int .i64))] [4, 5, 6, 7, 8, 9, 10, 11, 12, 13, 14, 15] (.two (.two .nil (.two .nil .nil)) (.two (.one .nil) .nil))))) (.two .nil .nil)))
theorem Cf11_sched_Sched_Ready_ok : Cf11_sched_Sched_Ready.Ok := mkC_ok mixed tysOk zerosOk eqsOk trivial trivial
theorem Ef11_sched_Sched_Ready (x : Option Addr) : evF Cf11_sched_Sched_Ready Try.f11 17 .ptr .sl Af11_sched_Sched_Ready x = f11_sched_Sched_Ready x := by kernel_rfl
theorem Sf11_sched_Sched_Ready : SoundF Try.prog 11 ⟨.ptr, .sl, fun x => f11_sched_Sched_Ready x⟩ :=
  soundF_of Cf11_sched_Sched_Ready_ok Try.func11 (by kernel_rfl) (by kernel_rfl) Ef11_sched_Sched_Ready
noncomputable def Cf14_palaverref00_SameInts : Ctx := mkC Try.prog tys zeros eqs [] []
/-- palaverpalaverref00.SameInts -/
noncomputable def f14_palaverref00_SameInts (x0 : Sl) (x1 : Sl) : M Bool :=
  cnd ((x0.len : Int) != (x1.len : Int)) (
  ret false) (
  loopM (fun (s1 : Int) =>
  cnd (decide (s1 < (x0.len : Int))) (
  bnd drawM fun _ =>
  bnd (ix 1 x0 s1) fun (p2 : Addr) =>
  bnd (ld (.int .i64) p2) fun (v3 : Int) =>
  bnd (ix 1 x1 s1) fun (p4 : Addr) =>
  bnd (ld (.int .i64) p4) fun (v5 : Int) =>
  cnd (v3 != v5) (
  ret (Sum.inr false)) (
  ret (Sum.inl (IntKind.wrap .i64 (s1 + (1 : Int)))))) (
  ret (Sum.inr true))) (0 : Int))
noncomputable def Af14_palaverref00_SameInts : Ann := (.two .nil (.two (.two .nil (.two (.two .nil .nil) .nil)) (.two (.two .nil (.one (.loop [(5, (.int .i64))] [4, 11, 12, 13, 14, 15, 16, 17, 18, 19, 20, 21, 22, 23, 24, 25] (.two (.two .nil (.two .nil .nil)) (.two (.one (.two .nil (.two (.two .nil .nil) .nil))) .nil))))) (.two .nil .nil))))
theorem Cf14_palaverref00_SameInts_ok : Cf14_palaverref00_SameInts.Ok := mkC_ok mixed tysOk zerosOk eqsOk trivial trivial
theorem Ef14_palaverref00_SameInts (x : (Sl × Sl)) : evF Cf14_palaverref00_SameInts Try.f14 26 (.pair .sl .sl) .bool Af14_palaverref00_SameInts x = f14_palaverref00_SameInts x.1 x.2 := by kernel_rfl
theorem Sf14_palaverref00_SameInts : SoundF Try.prog 14 ⟨(.pair .sl .sl), .bool, fun x => f14_palaverref00_SameInts x.1 x.2⟩ :=
  soundF_of Cf14_palaverref00_SameInts_ok Try.func14 (by kernel_rfl) (by kernel_rfl) Ef14_palaverref00_SameInts
noncomputable def Cf19_sched_Sched_Semaphore : Ctx := mkC Try.prog tys zeros eqs [] []
/-- (*palaversched.Sched).Semaphore -/
noncomputable def f19_sched_Sched_Semaphore (x0 : Option Addr) : M (Int × Int) :=
  bnd (drf x0) fun (p1 : Addr) =>
  bnd (ld .sl (Addr.add p1 3)) fun (v2 : Sl) =>
  cnd (decide ((v2.len : Int) ≥ (4096 : Int))) (
  ret ((0 : Int), (264 : Int))) (
  bnd (drf x0) fun (p3 : Addr) =>
  bnd (ld .sl (Addr.add p3 3)) fun (v4 : Sl) =>
  bnd (runV Try.prog .sl (Instr.buildSlice 50 1 #[(0, .agg #[.int .i64 (0 : Int), .slice none 0 0])])) fun (v5 : Sl) =>
  bnd (runV Try.prog .sl (Builtin.append_ #[50, 50] 50 #[.slice v4.a v4.len v4.cap, .slice v5.a v5.len v5.cap])) fun (v6 : Sl) =>
  bnd (drf x0) fun (p7 : Addr) =>
  bnd (wrs (Addr.add p7 3) 0 [.slice v6.a v6.len v6.cap]) fun _ =>
  bnd (drf x0) fun (p8 : Addr) =>
  bnd (ld .sl (Addr.add p8 3)) fun (v9 : Sl) =>
  ret ((v9.len : Int), (0 : Int)))
noncomputable def Af19_sched_Sched_Semaphore : Ann := (.two .nil (.two (.two .nil (.two (.two .nil .nil) .nil)) (.two .nil (.two .nil .nil))))
theorem Cf19_sched_Sched_Semaphore_ok : Cf19_sched_Sched_Semaphore.Ok := mkC_ok mixed tysOk zerosOk eqsOk trivial trivial
theorem Ef19_sched_Sched_Semaphore (x : Option Addr) : evF Cf19_sched_Sched_Semaphore Try.f19 25 .ptr (.tup (.pair (.int .i64) (.int .i64))) Af19_sched_Sched_Semaphore x = f19_sched_Sched_Semaphore x := by kernel_rfl
theorem Sf19_sched_Sched_Semaphore : SoundF Try.prog 19 ⟨.ptr, (.tup (.pair (.int .i64) (.int .i64))), fun x => f19_sched_Sched_Semaphore x⟩ :=
  soundF_of Cf19_sched_Sched_Semaphore_ok Try.func19 (by kernel_rfl) (by kernel_rfl) Ef19_sched_Sched_Semaphore
noncomputable def Cf31_sched_Sched_sem : Ctx := mkC Try.prog tys zeros eqs [] []
/-- (*palaversched.Sched).sem -/
noncomputable def f31_sched_Sched_sem (x0 : Option Addr) (x1 : Int) : M (Option Addr) :=
  bnd (
  cnd (decide (x1 < (1 : Int))) (
  ret true) (
  bnd (drf x0) fun (p1 : Addr) =>
  bnd (ld .sl (Addr.add p1 3)) fun (v2 : Sl) =>
  ret (decide (x1 > (v2.len : Int))))) fun (b3 : Bool) =>
  cnd b3 (
  ret none) (
  bnd (drf x0) fun (p4 : Addr) =>
  bnd (ld .sl (Addr.add p4 3)) fun (v5 : Sl) =>
  bnd (ix 2 v5 (IntKind.wrap .i64 (x1 - (1 : Int)))) fun (p6 : Addr) =>
  ret (some p6))
noncomputable def Af31_sched_Sched_sem : Ann := (.two .nil (.two (.two .nil (.two (.two .nil .nil) .nil)) (.two .nil .nil)))
theorem Cf31_sched_Sched_sem_ok : Cf31_sched_Sched_sem.Ok := mkC_ok mixed tysOk zerosOk eqsOk trivial trivial
theorem Ef31_sched_Sched_sem (x : (Option Addr × Int)) : evF Cf31_sched_Sched_sem Try.f31 23 (.pair .ptr (.int .i64)) .ptr Af31_sched_Sched_sem x = f31_sched_Sched_sem x.1 x.2 := by kernel_rfl
theorem Sf31_sched_Sched_sem : SoundF Try.prog 31 ⟨(.pair .ptr (.int .i64)), .ptr, fun x => f31_sched_Sched_sem x.1 x.2⟩ :=
  soundF_of Cf31_sched_Sched_sem_ok Try.func31 (by kernel_rfl) (by kernel_rfl) Ef31_sched_Sched_sem
noncomputable def Bf20_sched_Sched_Wait : Ctx := mkC Try.prog tys zeros eqs [(30, ⟨(.pair .ptr (.int .i64)), .ptr, fun x => f30_sched_Sched_of x.1 x.2⟩), (31, ⟨(.pair .ptr (.int .i64)), .ptr, fun x => f31_sched_Sched_sem x.1 x.2⟩)] []
noncomputable def Cf20_sched_Sched_Wait : Ctx := Bf20_sched_Sched_Wait.with [(33, ⟨.ptr, (.tup .unit), fun x => f33_sched_Sched_runs x⟩)] []
/-- (*palaversched.Sched).Wait -/
noncomputable def f20_sched_Sched_Wait (x0 : Option Addr) (x1 : Int) : M Int :=
  bnd (f31_sched_Sched_sem x0 x1) fun (r1 : Option Addr) =>
  bnd (drf x0) fun (p2 : Addr) =>
  bnd (ld (.int .i64) (Addr.add p2 1)) fun (v3 : Int) =>
  cnd (v3 == (0 : Int)) (
  ret (265 : Int)) (
  cnd (Option.isNone r1) (
  ret (261 : Int)) (
  bnd (drf r1) fun (p4 : Addr) =>
  bnd (ld (.int .i64) (Addr.add p4 0)) fun (v5 : Int) =>
  cnd (decide (v5 > (0 : Int))) (
  bnd (drf r1) fun (p6 : Addr) =>
  bnd (ld (.int .i64) (Addr.add p6 0)) fun (v7 : Int) =>
  bnd (drf r1) fun (p8 : Addr) =>
  bnd (wrs (Addr.add p8 0) 0 [.int .i64 (IntKind.wrap .i64 (v7 - (1 : Int)))]) fun _ =>
  ret (0 : Int)) (
  bnd (drf x0) fun (p9 : Addr) =>
  bnd (ld (.int .i64) (Addr.add p9 1)) fun (v10 : Int) =>
  bnd (f30_sched_Sched_of x0 v10) fun (r11 : Option Addr) =>
  bnd (drf r11) fun (p12 : Addr) =>
  bnd (wrs (Addr.add p12 1) 0 [.int .u8 (3 : Int)]) fun _ =>
  bnd (drf r11) fun (p13 : Addr) =>
  bnd (wrs (Addr.add p13 2) 0 [.int .i64 x1]) fun _ =>
  bnd (
  bnd (ordM 20 12 (regionIn 12 Try.f20)) fun (o15 : List Nat) =>
  bnd (drf r1) fun (p16 : Addr) =>
  bnd (ld .sl (Addr.add p16 1)) fun (v17 : Sl) =>
  bnd (drf x0) fun (p18 : Addr) =>
  bnd (ld (.int .i64) (Addr.add p18 1)) fun (v19 : Int) =>
  bnd (runV Try.prog .sl (Instr.buildSlice 31 1 #[(0, .int .i64 v19)])) fun (v20 : Sl) =>
  bnd (
  bnd (chk .sl (Addr.add p16 1) v17) fun _ =>
  ret ()) fun _ =>
  bnd (runV Try.prog .sl (Builtin.append_ #[31, 31] 31 #[.slice v17.a v17.len v17.cap, .slice v20.a v20.len v20.cap])) fun (v21 : Sl) =>
  bnd (ret ()) fun _ =>
  bnd (drf r1) fun (p22 : Addr) =>
  bnd (wrs (Addr.add p22 1) 0 [.slice v21.a v21.len v21.cap]) fun _ =>
  bnd (ret ()) fun _ =>
  ret ()) fun (s14 : Unit) =>
  bnd (drf x0) fun (p23 : Addr) =>
  bnd (wrs (Addr.add p23 1) 0 [.int .i64 (0 : Int)]) fun _ =>
  bnd (f33_sched_Sched_runs x0) fun _ =>
  ret (0 : Int))))
noncomputable def Af20_sched_Sched_Wait : Ann := (.two .nil (.two .nil (.two (.one (.two .nil (.two (.two .nil .nil) (.two .nil (.two (.two .nil .nil) (.two .nil (.two (.two .nil (.two .nil .nil)) .nil))))))) (.two .dfr (.two .nil (.two .nil (.two (.join [] [46, 47, 48, 49, 50, 51, 52, 53, 54, 55, 56, 57, 58] false (.ord 20 [(0, 16382), (0, 16381), (2, 16377), (4, 16371), (8, 16359), (0, 16351), (32, 16287), (64, 16191), (128, 15999), (256, 15615), (528, 14831), (2047, 14334), (4095, 10239), (6143, 3071)] (.o 0 (.o 1 (.o 2 (.o 3 (.o 4 (.o 5 (.o 6 (.o 7 (.o 8 (.o 9 (.o 10 (.o 11 (.o 12 (.o 13 .done)))))))))))))))) (.two .nil (.two .nil .nil)))))))))
theorem Bf20_sched_Sched_Wait_ok : Bf20_sched_Sched_Wait.Ok := mkC_ok mixed tysOk zerosOk eqsOk ⟨Sf30_sched_Sched_of, Sf31_sched_Sched_sem, trivial⟩ trivial
theorem Cf20_sched_Sched_Wait_ok : Cf20_sched_Sched_Wait.Ok := with_ok Bf20_sched_Sched_Wait_ok ⟨SDf33, trivial⟩ trivial
theorem Ef20_sched_Sched_Wait (x : (Option Addr × Int)) : evF Cf20_sched_Sched_Wait Try.f20 62 (.pair .ptr (.int .i64)) (.int .i64) Af20_sched_Sched_Wait x = f20_sched_Sched_Wait x.1 x.2 := by kernel_rfl
theorem Sf20_sched_Sched_Wait : SoundF Try.prog 20 ⟨(.pair .ptr (.int .i64)), (.int .i64), fun x => f20_sched_Sched_Wait x.1 x.2⟩ :=
  soundF_of Cf20_sched_Sched_Wait_ok Try.func20 (by kernel_rfl) (by kernel_rfl) Ef20_sched_Sched_Wait
noncomputable def Cf43_sched_Sched_signal : Ctx := mkC Try.prog tys zeros eqs [(31, ⟨(.pair .ptr (.int .i64)), .ptr, fun x => f31_sched_Sched_sem x.1 x.2⟩), (32, ⟨.sl, .sl, fun x => f32_slices_Cloneint_int x⟩), (34, ⟨(.pair .ptr (.int .i64)), (.tup .unit), fun x => f34_sched_Sched_ready x.1 x.2⟩)] []
/-- (*palaversched.Sched).signal -/
noncomputable def f43_sched_Sched_signal (x0 : Option Addr) (x1 : Int) : M Int :=
  bnd (f31_sched_Sched_sem x0 x1) fun (r1 : Option Addr) =>
  cnd (Option.isNone r1) (
  ret (261 : Int)) (
  bnd (drf r1) fun (p2 : Addr) =>
  bnd (ld .sl (Addr.add p2 1)) fun (v3 : Sl) =>
  bnd (
  cnd (decide ((v3.len : Int) > (0 : Int))) (
  bnd (drf r1) fun (p5 : Addr) =>
  bnd (ld .sl (Addr.add p5 1)) fun (v6 : Sl) =>
  bnd (ix 1 v6 (0 : Int)) fun (p7 : Addr) =>
  bnd (ld (.int .i64) p7) fun (v8 : Int) =>
  bnd (drf r1) fun (p9 : Addr) =>
  bnd (ld .sl (Addr.add p9 1)) fun (v10 : Sl) =>
  bnd (slc 1 v10 (some (1 : Int)) none none) fun (v11 : Sl) =>
  bnd (f32_slices_Cloneint_int v11) fun (r12 : Sl) =>
  bnd (drf r1) fun (p13 : Addr) =>
  bnd (wrs (Addr.add p13 1) 0 [.slice r12.a r12.len r12.cap]) fun _ =>
  bnd (f34_sched_Sched_ready x0 v8) fun (r14 : Unit) =>
  ret (Sum.inl ())) (
  bnd (drf r1) fun (p15 : Addr) =>
  bnd (ld (.int .i64) (Addr.add p15 0)) fun (v16 : Int) =>
  cnd (decide (v16 ≥ (1073741824 : Int))) (
  ret (Sum.inr (264 : Int))) (
  bnd (drf r1) fun (p18 : Addr) =>
  bnd (ld (.int .i64) (Addr.add p18 0)) fun (v19 : Int) =>
  bnd (drf r1) fun (p20 : Addr) =>
  bnd (wrs (Addr.add p20 0) 0 [.int .i64 (IntKind.wrap .i64 (v19 + (1 : Int)))]) fun _ =>
  ret (Sum.inl ())))) (fun
  | .inl (s4 : Unit) =>
  ret (0 : Int)
  | .inr r22 => ret r22))
noncomputable def Af43_sched_Sched_signal : Ann := (.two .nil (.two .nil (.two (.one (.two .nil (.two (.two .nil .nil) (.two .nil (.join [] [4, 6, 10, 11, 12, 13, 14, 15, 16, 27, 28, 29, 30, 31, 32, 33, 34, 35, 36, 37, 38, 39, 40, 41, 42, 43, 44, 45, 46, 47, 48, 49, 50] true (.two (.two .nil (.two .nil .nil)) (.two .nil (.two (.two .nil .nil) .nil)))))))) (.two .nil .nil))))
theorem Cf43_sched_Sched_signal_ok : Cf43_sched_Sched_signal.Ok := mkC_ok mixed tysOk zerosOk eqsOk ⟨Sf31_sched_Sched_sem, Sf32_slices_Cloneint_int, Sf34_sched_Sched_ready, trivial⟩ trivial
theorem Ef43_sched_Sched_signal (x : (Option Addr × Int)) : evF Cf43_sched_Sched_signal Try.f43 51 (.pair .ptr (.int .i64)) (.int .i64) Af43_sched_Sched_signal x = f43_sched_Sched_signal x.1 x.2 := by kernel_rfl
theorem Sf43_sched_Sched_signal : SoundF Try.prog 43 ⟨(.pair .ptr (.int .i64)), (.int .i64), fun x => f43_sched_Sched_signal x.1 x.2⟩ :=
  soundF_of Cf43_sched_Sched_signal_ok Try.func43 (by kernel_rfl) (by kernel_rfl) Ef43_sched_Sched_signal
noncomputable def Bf21_sched_Sched_Signal : Ctx := mkC Try.prog tys zeros eqs [(43, ⟨(.pair .ptr (.int .i64)), (.int .i64), fun x => f43_sched_Sched_signal x.1 x.2⟩)] []
noncomputable def Cf21_sched_Sched_Signal : Ctx := Bf21_sched_Sched_Signal.with [(33, ⟨.ptr, (.tup .unit), fun x => f33_sched_Sched_runs x⟩)] []
/-- (*palaversched.Sched).Signal -/
noncomputable def f21_sched_Sched_Signal (x0 : Option Addr) (x1 : Int) : M Int :=
  bnd (f43_sched_Sched_signal x0 x1) fun (r1 : Int) =>
  bnd (f33_sched_Sched_runs x0) fun _ =>
  ret r1
noncomputable def Af21_sched_Sched_Signal : Ann := (.two .nil (.two .dfr (.two .nil .nil)))
theorem Bf21_sched_Sched_Signal_ok : Bf21_sched_Sched_Signal.Ok := mkC_ok mixed tysOk zerosOk eqsOk ⟨Sf43_sched_Sched_signal, trivial⟩ trivial
theorem Cf21_sched_Sched_Signal_ok : Cf21_sched_Sched_Signal.Ok := with_ok Bf21_sched_Sched_Signal_ok ⟨SDf33, trivial⟩ trivial
theorem Ef21_sched_Sched_Signal (x : (Option Addr × Int)) : evF Cf21_sched_Sched_Signal Try.f21 9 (.pair .ptr (.int .i64)) (.int .i64) Af21_sched_Sched_Signal x = f21_sched_Sched_Signal x.1 x.2 := by kernel_rfl
theorem Sf21_sched_Sched_Signal : SoundF Try.prog 21 ⟨(.pair .ptr (.int .i64)), (.int .i64), fun x => f21_sched_Sched_Signal x.1 x.2⟩ :=
  soundF_of Cf21_sched_Sched_Signal_ok Try.func21 (by kernel_rfl) (by kernel_rfl) Ef21_sched_Sched_Signal
noncomputable def Cf44_sched_Sched_alive : Ctx := mkC Try.prog tys zeros eqs [(30, ⟨(.pair .ptr (.int .i64)), .ptr, fun x => f30_sched_Sched_of x.1 x.2⟩)] []
/-- (*palaversched.Sched).alive -/
noncomputable def f44_sched_Sched_alive (x0 : Option Addr) (x1 : Int) : M Int :=
  bnd (
  cnd (decide (x1 < (1 : Int))) (
  ret true) (
  bnd (drf x0) fun (p1 : Addr) =>
  bnd (ld .sl (Addr.add p1 2)) fun (v2 : Sl) =>
  ret (decide (x1 > (v2.len : Int))))) fun (b3 : Bool) =>
  cnd b3 (
  ret (260 : Int)) (
  bnd (f30_sched_Sched_of x0 x1) fun (r4 : Option Addr) =>
  bnd (drf r4) fun (p5 : Addr) =>
  bnd (ld (.int .u8) (Addr.add p5 1)) fun (v6 : Int) =>
  cnd (v6 == (5 : Int)) (
  ret (263 : Int)) (
  ret (0 : Int)))
noncomputable def Af44_sched_Sched_alive : Ann := (.two .nil (.two (.one (.two .nil (.two (.two .nil .nil) (.two .nil (.two (.two .nil .nil) .nil))))) (.two .nil .nil)))
theorem Cf44_sched_Sched_alive_ok : Cf44_sched_Sched_alive.Ok := mkC_ok mixed tysOk zerosOk eqsOk ⟨Sf30_sched_Sched_of, trivial⟩ trivial
theorem Ef44_sched_Sched_alive (x : (Option Addr × Int)) : evF Cf44_sched_Sched_alive Try.f44 25 (.pair .ptr (.int .i64)) (.int .i64) Af44_sched_Sched_alive x = f44_sched_Sched_alive x.1 x.2 := by kernel_rfl
theorem Sf44_sched_Sched_alive : SoundF Try.prog 44 ⟨(.pair .ptr (.int .i64)), (.int .i64), fun x => f44_sched_Sched_alive x.1 x.2⟩ :=
  soundF_of Cf44_sched_Sched_alive_ok Try.func44 (by kernel_rfl) (by kernel_rfl) Ef44_sched_Sched_alive
noncomputable def Cf61_sched_Sched_out_1 : Ctx := mkC Try.prog tys zeros eqs [] []
/-- (*palaversched.Sched).out$1 -/
noncomputable def f61_sched_Sched_out_1 (x0 : Int) (x1 : Addr) : M Bool :=
  bnd (ld (.int .i64) x1) fun (v1 : Int) =>
  ret (x0 == v1)
noncomputable def Af61_sched_Sched_out_1 : Ann := (.two .nil (.two .nil .nil))
theorem Cf61_sched_Sched_out_1_ok : Cf61_sched_Sched_out_1.Ok := mkC_ok mixed tysOk zerosOk eqsOk trivial trivial
theorem Ef61_sched_Sched_out_1 (x : (Int × Addr)) : evF Cf61_sched_Sched_out_1 Try.f61 7 (.pair (.int .i64) .adr) .bool Af61_sched_Sched_out_1 x = f61_sched_Sched_out_1 x.1 x.2 := by kernel_rfl
theorem Sf61_sched_Sched_out_1 : SoundF Try.prog 61 ⟨(.pair (.int .i64) .adr), .bool, fun x => f61_sched_Sched_out_1 x.1 x.2⟩ :=
  soundF_of Cf61_sched_Sched_out_1_ok Try.func61 (by kernel_rfl) (by kernel_rfl) Ef61_sched_Sched_out_1
noncomputable def Cf75_slices_IndexFuncint_int : Ctx := mkC Try.prog tys zeros eqs [(61, ⟨(.pair (.int .i64) .adr), .bool, fun x => f61_sched_Sched_out_1 x.1 x.2⟩)] []
/-- slices.IndexFuncintint -/
noncomputable def f75_slices_IndexFuncint_int (x0 : Sl) (x1 : Addr) : M Int :=
  loopM (fun (s1 : Int) =>
  cnd (decide (s1 < (x0.len : Int))) (
  bnd (ix 1 x0 s1) fun (p2 : Addr) =>
  bnd (ld (.int .i64) p2) fun (v3 : Int) =>
  bnd (f61_sched_Sched_out_1 v3 x1) fun (r4 : Bool) =>
  cnd r4 (
  ret (Sum.inr s1)) (
  ret (Sum.inl (IntKind.wrap .i64 (s1 + (1 : Int)))))) (
  ret (Sum.inr (-1 : Int)))) (0 : Int)
noncomputable def Af75_slices_IndexFuncint_int : Ann := (.two .nil (.two (.two .nil (.one (.loop [(8, (.int .i64))] [4, 5, 9, 10, 11, 12, 13, 14, 15, 16, 17, 18] (.two .nil (.two (.two .nil .nil) (.two (.one (.two .nil (.two .nil (.two (.two .nil .nil) .nil)))) .nil)))))) (.two .nil .nil)))
theorem Cf75_slices_IndexFuncint_int_ok : Cf75_slices_IndexFuncint_int.Ok := mkC_ok mixed tysOk zerosOk eqsOk ⟨Sf61_sched_Sched_out_1, trivial⟩ trivial
theorem Ef75_slices_IndexFuncint_int (x : (Sl × Addr)) : evF Cf75_slices_IndexFuncint_int Try.f75 19 (.pair .sl (.clo 61 .adr)) (.int .i64) Af75_slices_IndexFuncint_int x = f75_slices_IndexFuncint_int x.1 x.2 := by kernel_rfl
theorem Sf75_slices_IndexFuncint_int : SoundF Try.prog 75 ⟨(.pair .sl (.clo 61 .adr)), (.int .i64), fun x => f75_slices_IndexFuncint_int x.1 x.2⟩ :=
  soundF_of Cf75_slices_IndexFuncint_int_ok Try.func75 (by kernel_rfl) (by kernel_rfl) Ef75_slices_IndexFuncint_int
noncomputable def Cf62_slices_DeleteFuncint_int : Ctx := mkC Try.prog tys zeros eqs [(61, ⟨(.pair (.int .i64) .adr), .bool, fun x => f61_sched_Sched_out_1 x.1 x.2⟩), (75, ⟨(.pair .sl (.clo 61 .adr)), (.int .i64), fun x => f75_slices_IndexFuncint_int x.1 x.2⟩)] []
/-- slices.DeleteFuncintint -/
noncomputable def f62_slices_DeleteFuncint_int (x0 : Sl) (x1 : Addr) : M Sl :=
  bnd (f75_slices_IndexFuncint_int x0 x1) fun (r1 : Int) =>
  cnd (r1 == (-1 : Int)) (
  ret x0) (
  loopM (fun (s2 : (Int × Int)) =>
  cnd (decide (s2.2 < (x0.len : Int))) (
  bnd (ix 1 x0 s2.2) fun (p3 : Addr) =>
  bnd (ld (.int .i64) p3) fun (v4 : Int) =>
  bnd (f61_sched_Sched_out_1 v4 x1) fun (r5 : Bool) =>
  bnd (
  cnd (!r5) (
  bnd (ix 1 x0 s2.1) fun (p7 : Addr) =>
  bnd (wrs p7 0 [.int .i64 v4]) fun _ =>
  ret (IntKind.wrap .i64 (s2.1 + (1 : Int)))) (
  ret s2.1)) fun (s6 : Int) =>
  ret (Sum.inl (s6, (IntKind.wrap .i64 (s2.2 + (1 : Int)))))) (
  bnd (
  bnd (slc 1 x0 (some s2.1) none none) fun (v8 : Sl) =>
  bnd (runV Try.prog (.tup .unit) (Builtin.clear_ #[31] 0 #[.slice v8.a v8.len v8.cap])) fun (v9 : Unit) =>
  bnd (slc 1 x0 none (some s2.1) none) fun (v10 : Sl) =>
  ret v10) fun r11 =>
  ret (Sum.inr r11))) (r1, (IntKind.wrap .i64 (r1 + (1 : Int)))))
noncomputable def Af62_slices_DeleteFuncint_int : Ann := (.two .nil (.two .nil (.two (.two .nil (.two (.two .nil .nil) .nil)) (.two (.two .nil (.one (.loop [(5, (.int .i64)), (6, (.int .i64))] [7, 16, 17, 18, 19, 20, 21, 22, 23, 24, 25, 26, 27, 28, 29, 30, 31, 32, 33, 34, 35] (.two (.two .nil (.two .nil .nil)) (.two (.one (.two .nil (.two .nil (.join [(5, (.int .i64))] [30, 31, 32, 33, 34, 35] false (.two (.two .nil .nil) .nil))))) .nil))))) (.two .nil (.two .nil .nil))))))
theorem Cf62_slices_DeleteFuncint_int_ok : Cf62_slices_DeleteFuncint_int.Ok := mkC_ok mixed tysOk zerosOk eqsOk ⟨Sf61_sched_Sched_out_1, Sf75_slices_IndexFuncint_int, trivial⟩ trivial
theorem Ef62_slices_DeleteFuncint_int (x : (Sl × Addr)) : evF Cf62_slices_DeleteFuncint_int Try.f62 42 (.pair .sl (.clo 61 .adr)) .sl Af62_slices_DeleteFuncint_int x = f62_slices_DeleteFuncint_int x.1 x.2 := by kernel_rfl
theorem Sf62_slices_DeleteFuncint_int : SoundF Try.prog 62 ⟨(.pair .sl (.clo 61 .adr)), .sl, fun x => f62_slices_DeleteFuncint_int x.1 x.2⟩ :=
  soundF_of Cf62_slices_DeleteFuncint_int_ok Try.func62 (by kernel_rfl) (by kernel_rfl) Ef62_slices_DeleteFuncint_int
noncomputable def Cf45_sched_Sched_out : Ctx := mkC Try.prog tys zeros eqs [(30, ⟨(.pair .ptr (.int .i64)), .ptr, fun x => f30_sched_Sched_of x.1 x.2⟩), (62, ⟨(.pair .sl (.clo 61 .adr)), .sl, fun x => f62_slices_DeleteFuncint_int x.1 x.2⟩)] []
/-- (*palaversched.Sched).out -/
noncomputable def f45_sched_Sched_out (x0 : Option Addr) (x1 : Int) : M Unit :=
  bnd (newC 3 [.int .i64 x1]) fun (p1 : Addr) =>
  bnd (ld (.int .i64) p1) fun (v2 : Int) =>
  bnd (f30_sched_Sched_of x0 v2) fun (r3 : Option Addr) =>
  bnd (drf r3) fun (p4 : Addr) =>
  bnd (ld (.int .u8) (Addr.add p4 1)) fun (v5 : Int) =>
  bnd (
  cnd (v5 == (1 : Int)) (
  bnd (
  bnd (ordM 45 5 (regionIn 5 Try.f45)) fun (o8 : List Nat) =>
  bnd (drf r3) fun (p9 : Addr) =>
  bnd (ld (.int .i64) (Addr.add p9 0)) fun (v10 : Int) =>
  bnd (drf r3) fun (p11 : Addr) =>
  bnd (ld (.int .i64) (Addr.add p11 0)) fun (v12 : Int) =>
  bnd (drf x0) fun (p13 : Addr) =>
  bnd (ixA 17 1 (Addr.add p13 4) v12) fun (p14 : Addr) =>
  bnd (ld .sl p14) fun (v15 : Sl) =>
  bnd (drf x0) fun (p16 : Addr) =>
  bnd (f62_slices_DeleteFuncint_int v15 p1) fun (r17 : Sl) =>
  bnd (
  bnd (chk (.int .i64) (Addr.add p11 0) v12) fun _ =>
  bnd (chk (.int .i64) (Addr.add p9 0) v10) fun _ =>
  ret ()) fun _ =>
  bnd (ixA 17 1 (Addr.add p16 4) v10) fun (p18 : Addr) =>
  bnd (wrs p18 0 [.slice r17.a r17.len r17.cap]) fun _ =>
  bnd (ret ()) fun _ =>
  ret ()) fun (s7 : Unit) =>
  ret ()) (
  bnd (
  cnd (v5 == (3 : Int)) (
  bnd drawM fun _ =>
  bnd (drf x0) fun (p20 : Addr) =>
  bnd (ld .sl (Addr.add p20 3)) fun (v21 : Sl) =>
  bnd (drf r3) fun (p22 : Addr) =>
  bnd (ld (.int .i64) (Addr.add p22 2)) fun (v23 : Int) =>
  bnd (ix 2 v21 (IntKind.wrap .i64 (v23 - (1 : Int)))) fun (p24 : Addr) =>
  bnd (ld .sl (Addr.add p24 1)) fun (v25 : Sl) =>
  bnd (f62_slices_DeleteFuncint_int v25 p1) fun (r26 : Sl) =>
  bnd (wrs (Addr.add p24 1) 0 [.slice r26.a r26.len r26.cap]) fun _ =>
  bnd (drf r3) fun (p27 : Addr) =>
  bnd (wrs (Addr.add p27 2) 0 [.int .i64 (0 : Int)]) fun _ =>
  ret ()) (
  bnd (
  cnd (v5 == (2 : Int)) (
  bnd (drf x0) fun (p29 : Addr) =>
  bnd (wrs (Addr.add p29 1) 0 [.int .i64 (0 : Int)]) fun _ =>
  ret ()) (
  ret ())) fun (s28 : Unit) =>
  ret ())) fun (s19 : Unit) =>
  ret ())) fun (s6 : Unit) =>
  ret ()
noncomputable def Af45_sched_Sched_out : Ann := (.two .nil (.two .nil (.two .nil (.two .nil (.one (.two .nil (.join [] [6, 17, 18, 19, 20, 21, 22, 23, 24, 25, 26, 27, 28, 29, 30, 31, 32, 33, 34, 35, 36, 37, 38, 39, 40, 41, 42, 43, 44, 45, 46, 47, 48, 49, 50, 51, 52, 53, 54, 55, 56, 57, 58, 59, 60, 61, 62, 63] false (.two (.join [] [17, 18, 19, 20, 21, 22, 23, 24, 25, 26, 27, 28, 29, 30, 31, 32, 33, 34, 35] false (.ord 45 [(0, 1048574), (0, 1048573), (2, 1048569), (4, 1048563), (8, 1048551), (0, 1048543), (0, 1048511), (64, 1048383), (128, 1048191), (256, 1047807), (32, 1047519), (1024, 1045503), (2560, 1041919), (4096, 1036287), (0, 1032191), (24576, 991231), (1, 983038), (65536, 851967), (196607, 655343), (327679, 229375)] (.o 0 (.o 1 (.o 2 (.o 3 (.o 4 (.o 5 (.o 6 (.o 7 (.o 8 (.o 9 (.o 10 (.o 11 (.o 12 (.o 13 (.o 14 (.o 16 (.o 17 (.o 15 (.o 18 (.o 19 .done)))))))))))))))))))))) (.two .nil (.join [] [6, 38, 39, 40, 41, 42, 43, 44, 45, 46, 47, 48, 49, 50, 51, 52, 53, 54, 55, 56, 57, 58, 59, 60, 61, 62, 63] false (.two (.two .nil (.two .nil .nil)) (.two .nil (.join [] [61, 62, 63] false (.two .nil .nil))))))))))))))
theorem Cf45_sched_Sched_out_ok : Cf45_sched_Sched_out.Ok := mkC_ok mixed tysOk zerosOk eqsOk ⟨Sf30_sched_Sched_of, Sf62_slices_DeleteFuncint_int, trivial⟩ trivial
theorem Ef45_sched_Sched_out (x : (Option Addr × Int)) : evF Cf45_sched_Sched_out Try.f45 64 (.pair .ptr (.int .i64)) (.tup .unit) Af45_sched_Sched_out x = f45_sched_Sched_out x.1 x.2 := by kernel_rfl
theorem Sf45_sched_Sched_out : SoundF Try.prog 45 ⟨(.pair .ptr (.int .i64)), (.tup .unit), fun x => f45_sched_Sched_out x.1 x.2⟩ :=
  soundF_of Cf45_sched_Sched_out_ok Try.func45 (by kernel_rfl) (by kernel_rfl) Ef45_sched_Sched_out
noncomputable def Bf22_sched_Sched_Terminate : Ctx := mkC Try.prog tys zeros eqs [(30, ⟨(.pair .ptr (.int .i64)), .ptr, fun x => f30_sched_Sched_of x.1 x.2⟩), (44, ⟨(.pair .ptr (.int .i64)), (.int .i64), fun x => f44_sched_Sched_alive x.1 x.2⟩), (45, ⟨(.pair .ptr (.int .i64)), (.tup .unit), fun x => f45_sched_Sched_out x.1 x.2⟩)] []
noncomputable def Cf22_sched_Sched_Terminate : Ctx := Bf22_sched_Sched_Terminate.with [(33, ⟨.ptr, (.tup .unit), fun x => f33_sched_Sched_runs x⟩)] []
/-- (*palaversched.Sched).Terminate -/
noncomputable def f22_sched_Sched_Terminate (x0 : Option Addr) (x1 : Int) : M Int :=
  bnd (f44_sched_Sched_alive x0 x1) fun (r1 : Int) =>
  cnd (r1 != (0 : Int)) (
  ret r1) (
  bnd (f45_sched_Sched_out x0 x1) fun (r2 : Unit) =>
  bnd (f30_sched_Sched_of x0 x1) fun (r3 : Option Addr) =>
  bnd (drf r3) fun (p4 : Addr) =>
  bnd (wrs (Addr.add p4 1) 0 [.int .u8 (5 : Int)]) fun _ =>
  bnd (f33_sched_Sched_runs x0) fun _ =>
  ret (0 : Int))
noncomputable def Af22_sched_Sched_Terminate : Ann := (.two .nil (.two (.two .nil (.two .nil (.two (.two .nil .nil) .nil))) (.two .dfr (.two .nil (.two .nil (.two .nil .nil))))))
theorem Bf22_sched_Sched_Terminate_ok : Bf22_sched_Sched_Terminate.Ok := mkC_ok mixed tysOk zerosOk eqsOk ⟨Sf30_sched_Sched_of, Sf44_sched_Sched_alive, Sf45_sched_Sched_out, trivial⟩ trivial
theorem Cf22_sched_Sched_Terminate_ok : Cf22_sched_Sched_Terminate.Ok := with_ok Bf22_sched_Sched_Terminate_ok ⟨SDf33, trivial⟩ trivial
theorem Ef22_sched_Sched_Terminate (x : (Option Addr × Int)) : evF Cf22_sched_Sched_Terminate Try.f22 21 (.pair .ptr (.int .i64)) (.int .i64) Af22_sched_Sched_Terminate x = f22_sched_Sched_Terminate x.1 x.2 := by kernel_rfl
theorem Sf22_sched_Sched_Terminate : SoundF Try.prog 22 ⟨(.pair .ptr (.int .i64)), (.int .i64), fun x => f22_sched_Sched_Terminate x.1 x.2⟩ :=
  soundF_of Cf22_sched_Sched_Terminate_ok Try.func22 (by kernel_rfl) (by kernel_rfl) Ef22_sched_Sched_Terminate
noncomputable def Bf15_sched_Sched_Yield : Ctx := mkC Try.prog tys zeros eqs [(34, ⟨(.pair .ptr (.int .i64)), (.tup .unit), fun x => f34_sched_Sched_ready x.1 x.2⟩)] []
noncomputable def Cf15_sched_Sched_Yield : Ctx := Bf15_sched_Sched_Yield.with [(33, ⟨.ptr, (.tup .unit), fun x => f33_sched_Sched_runs x⟩)] []
/-- (*palaversched.Sched).Yield -/
noncomputable def f15_sched_Sched_Yield (x0 : Option Addr) : M Int :=
  bnd (drf x0) fun (p1 : Addr) =>
  bnd (ld (.int .i64) (Addr.add p1 1)) fun (v2 : Int) =>
  cnd (v2 == (0 : Int)) (
  ret (265 : Int)) (
  bnd (drf x0) fun (p3 : Addr) =>
  bnd (ld (.int .i64) (Addr.add p3 1)) fun (v4 : Int) =>
  bnd (drf x0) fun (p5 : Addr) =>
  bnd (wrs (Addr.add p5 1) 0 [.int .i64 (0 : Int)]) fun _ =>
  bnd (f34_sched_Sched_ready x0 v4) fun (r6 : Unit) =>
  bnd (f33_sched_Sched_runs x0) fun _ =>
  ret (0 : Int))
noncomputable def Af15_sched_Sched_Yield : Ann := (.two .nil (.two (.two .nil (.two (.two .nil .nil) .nil)) (.two .dfr (.two .nil (.two .nil (.two .nil (.two .nil .nil)))))))
theorem Bf15_sched_Sched_Yield_ok : Bf15_sched_Sched_Yield.Ok := mkC_ok mixed tysOk zerosOk eqsOk ⟨Sf34_sched_Sched_ready, trivial⟩ trivial
theorem Cf15_sched_Sched_Yield_ok : Cf15_sched_Sched_Yield.Ok := with_ok Bf15_sched_Sched_Yield_ok ⟨SDf33, trivial⟩ trivial
theorem Ef15_sched_Sched_Yield (x : Option Addr) : evF Cf15_sched_Sched_Yield Try.f15 20 .ptr (.int .i64) Af15_sched_Sched_Yield x = f15_sched_Sched_Yield x := by kernel_rfl
theorem Sf15_sched_Sched_Yield : SoundF Try.prog 15 ⟨.ptr, (.int .i64), fun x => f15_sched_Sched_Yield x⟩ :=
  soundF_of Cf15_sched_Sched_Yield_ok Try.func15 (by kernel_rfl) (by kernel_rfl) Ef15_sched_Sched_Yield
noncomputable def Cf104_sched_timers_Push : Ctx := mkC Try.prog tys zeros eqs [] []
/-- (*palaversched.timers).Push -/
noncomputable def f104_sched_timers_Push (x0 : Option Addr) (x1 : (Int × (Int × Int))) : M Unit :=
  bnd (
  bnd (ordM 104 0 (regionIn 0 Try.f104)) fun (o2 : List Nat) =>
  bnd (drf x0) fun (p3 : Addr) =>
  bnd (ld .sl p3) fun (v4 : Sl) =>
  bnd (runV Try.prog .sl (Instr.buildSlice 53 1 #[(0, .agg #[.int .i64 x1.1, .int .i64 x1.2.1, .int .i64 x1.2.2])])) fun (v5 : Sl) =>
  bnd (
  bnd (chk .sl p3 v4) fun _ =>
  ret ()) fun _ =>
  bnd (runV Try.prog .sl (Builtin.append_ #[53, 53] 53 #[.slice v4.a v4.len v4.cap, .slice v5.a v5.len v5.cap])) fun (v6 : Sl) =>
  bnd (ret ()) fun _ =>
  bnd (drf x0) fun (p7 : Addr) =>
  bnd (wrs p7 0 [.slice v6.a v6.len v6.cap]) fun _ =>
  bnd (ret ()) fun _ =>
  ret ()) fun (s1 : Unit) =>
  ret ()
noncomputable def Af104_sched_timers_Push : Ann := (.join [] [4, 5, 6, 7, 8, 9, 10, 11, 12] false (.ord 104 [(0, 1022), (0, 1021), (2, 1017), (4, 1011), (0, 1007), (16, 975), (32, 927), (72, 823), (255, 766), (511, 127)] (.o 0 (.o 1 (.o 2 (.o 3 (.o 4 (.o 5 (.o 6 (.o 7 (.o 8 (.o 9 .done))))))))))))
theorem Cf104_sched_timers_Push_ok : Cf104_sched_timers_Push.Ok := mkC_ok mixed tysOk zerosOk eqsOk trivial trivial
theorem Ef104_sched_timers_Push (x : (Option Addr × (Int × (Int × Int)))) : evF Cf104_sched_timers_Push Try.f104 13 (.pair .ptr (.ifc 71 (.agg (.pair (.int .i64) (.pair (.int .i64) (.int .i64)))))) (.tup .unit) Af104_sched_timers_Push x = f104_sched_timers_Push x.1 x.2 := by kernel_rfl
theorem Sf104_sched_timers_Push : SoundF Try.prog 104 ⟨(.pair .ptr (.ifc 71 (.agg (.pair (.int .i64) (.pair (.int .i64) (.int .i64)))))), (.tup .unit), fun x => f104_sched_timers_Push x.1 x.2⟩ :=
  soundF_of Cf104_sched_timers_Push_ok Try.func104 (by kernel_rfl) (by kernel_rfl) Ef104_sched_timers_Push
noncomputable def Gf100_sched_timers_Len (x0 : Sl) : Int :=
  (x0.len : Int)
noncomputable def Cf100_sched_timers_Len : Ctx := mkC Try.prog tys zeros eqs [] []
/-- (palaversched.timers).Len -/
noncomputable def f100_sched_timers_Len (x0 : Sl) : M Int :=
  ret (x0.len : Int)
noncomputable def Af100_sched_timers_Len : Ann := (.two .nil (.two .nil .nil))
theorem Cf100_sched_timers_Len_ok : Cf100_sched_timers_Len.Ok := mkC_ok mixed tysOk zerosOk eqsOk trivial trivial
theorem Ef100_sched_timers_Len (x : Sl) : evF Cf100_sched_timers_Len Try.f100 5 .sl (.int .i64) Af100_sched_timers_Len x = f100_sched_timers_Len x := by kernel_rfl
theorem Sf100_sched_timers_Len : SoundF Try.prog 100 ⟨.sl, (.int .i64), fun x => f100_sched_timers_Len x⟩ :=
  soundF_of Cf100_sched_timers_Len_ok Try.func100 (by kernel_rfl) (by kernel_rfl) Ef100_sched_timers_Len
theorem Hf100_sched_timers_Len (x0 : Sl) : f100_sched_timers_Len x0 = ret (Gf100_sched_timers_Len x0) := by
  simp only [f100_sched_timers_Len, Gf100_sched_timers_Len, bnd_ret, cnd_ret, bnd_cnd]
theorem Pf100_sched_timers_Len : SoundP Try.prog 100 ⟨.sl, (.int .i64), fun x => Gf100_sched_timers_Len x⟩ := soundP_of Sf100_sched_timers_Len fun x => Hf100_sched_timers_Len x
noncomputable def Cf101_sched_timers_Less : Ctx := mkC Try.prog tys zeros eqs [] []
/-- (palaversched.timers).Less -/
noncomputable def f101_sched_timers_Less (x0 : Sl) (x1 : Int) (x2 : Int) : M Bool :=
  bnd drawM fun _ =>
  bnd (ix 3 x0 x1) fun (p1 : Addr) =>
  bnd (ld (.int .i64) (Addr.add p1 0)) fun (v2 : Int) =>
  bnd (ix 3 x0 x2) fun (p3 : Addr) =>
  bnd (ld (.int .i64) (Addr.add p3 0)) fun (v4 : Int) =>
  cnd (v2 != v4) (
  bnd drawM fun _ =>
  bnd (ix 3 x0 x1) fun (p5 : Addr) =>
  bnd (ld (.int .i64) (Addr.add p5 0)) fun (v6 : Int) =>
  bnd (ix 3 x0 x2) fun (p7 : Addr) =>
  bnd (ld (.int .i64) (Addr.add p7 0)) fun (v8 : Int) =>
  ret (decide (v6 < v8))) (
  bnd drawM fun _ =>
  bnd (ix 3 x0 x1) fun (p9 : Addr) =>
  bnd (ld (.int .i64) (Addr.add p9 1)) fun (v10 : Int) =>
  bnd (ix 3 x0 x2) fun (p11 : Addr) =>
  bnd (ld (.int .i64) (Addr.add p11 1)) fun (v12 : Int) =>
  ret (decide (v10 < v12)))
noncomputable def Af101_sched_timers_Less : Ann := (.two .nil (.two (.two .nil (.two (.two .nil .nil) .nil)) (.two .nil .nil)))
theorem Cf101_sched_timers_Less_ok : Cf101_sched_timers_Less.Ok := mkC_ok mixed tysOk zerosOk eqsOk trivial trivial
theorem Ef101_sched_timers_Less (x : (Sl × (Int × Int))) : evF Cf101_sched_timers_Less Try.f101 40 (.pair .sl (.pair (.int .i64) (.int .i64))) .bool Af101_sched_timers_Less x = f101_sched_timers_Less x.1 x.2.1 x.2.2 := by kernel_rfl
theorem Sf101_sched_timers_Less : SoundF Try.prog 101 ⟨(.pair .sl (.pair (.int .i64) (.int .i64))), .bool, fun x => f101_sched_timers_Less x.1 x.2.1 x.2.2⟩ :=
  soundF_of Cf101_sched_timers_Less_ok Try.func101 (by kernel_rfl) (by kernel_rfl) Ef101_sched_timers_Less
noncomputable def Cf102_sched_timers_Swap : Ctx := mkC Try.prog tys zeros eqs [] []
/-- (palaversched.timers).Swap -/
noncomputable def f102_sched_timers_Swap (x0 : Sl) (x1 : Int) (x2 : Int) : M Unit :=
  bnd (
  bnd (ordM 102 0 (regionIn 0 Try.f102)) fun (o2 : List Nat) =>
  bnd (ix 3 x0 x2) fun (p3 : Addr) =>
  bnd (ld (.agg (.pair (.int .i64) (.pair (.int .i64) (.int .i64)))) p3) fun (v4 : (Int × (Int × Int))) =>
  bnd (ix 3 x0 x1) fun (p5 : Addr) =>
  bnd (ld (.agg (.pair (.int .i64) (.pair (.int .i64) (.int .i64)))) p5) fun (v6 : (Int × (Int × Int))) =>
  bnd (ix 3 x0 x1) fun (p7 : Addr) =>
  bnd (wrs p7 0 [.int .i64 v4.1, .int .i64 v4.2.1, .int .i64 v4.2.2]) fun _ =>
  bnd (ret ()) fun _ =>
  bnd (ix 3 x0 x2) fun (p8 : Addr) =>
  bnd (wrs p8 0 [.int .i64 v6.1, .int .i64 v6.2.1, .int .i64 v6.2.2]) fun _ =>
  bnd (ret ()) fun _ =>
  ret ()) fun (s1 : Unit) =>
  ret ()
noncomputable def Af102_sched_timers_Swap : Ann := (.join [] [6, 7, 8, 9, 10, 11, 12, 13, 14, 15, 16, 17, 18, 19] false (.ord 102 [(0, 65534), (0, 65533), (0, 65531), (0, 65527), (0, 65519), (0, 65503), (48, 65423), (64, 65343), (0, 65279), (0, 65023), (768, 63743), (1024, 62463), (2291, 61436), (6387, 53119), (16383, 49139), (32767, 14335)] (.o 0 (.o 1 (.o 2 (.o 3 (.o 4 (.o 5 (.o 6 (.o 7 (.o 8 (.o 9 (.o 10 (.o 11 (.o 12 (.o 13 (.o 14 (.o 15 .done))))))))))))))))))
theorem Cf102_sched_timers_Swap_ok : Cf102_sched_timers_Swap.Ok := mkC_ok mixed tysOk zerosOk eqsOk trivial trivial
theorem Ef102_sched_timers_Swap (x : (Sl × (Int × Int))) : evF Cf102_sched_timers_Swap Try.f102 20 (.pair .sl (.pair (.int .i64) (.int .i64))) (.tup .unit) Af102_sched_timers_Swap x = f102_sched_timers_Swap x.1 x.2.1 x.2.2 := by kernel_rfl
theorem Sf102_sched_timers_Swap : SoundF Try.prog 102 ⟨(.pair .sl (.pair (.int .i64) (.int .i64))), (.tup .unit), fun x => f102_sched_timers_Swap x.1 x.2.1 x.2.2⟩ :=
  soundF_of Cf102_sched_timers_Swap_ok Try.func102 (by kernel_rfl) (by kernel_rfl) Ef102_sched_timers_Swap
noncomputable def Cf76_heap_up : Ctx := mkC Try.prog tys zeros eqs [(101, ⟨(.pair .sl (.pair (.int .i64) (.int .i64))), .bool, fun x => f101_sched_timers_Less x.1 x.2.1 x.2.2⟩), (102, ⟨(.pair .sl (.pair (.int .i64) (.int .i64))), (.tup .unit), fun x => f102_sched_timers_Swap x.1 x.2.1 x.2.2⟩)] []
/-- containerheap.up -/
noncomputable def f76_heap_up (x0 : Option Addr) (x1 : Int) : M Unit :=
  loopM (fun (s1 : Int) =>
  bnd (
  cnd ((IntKind.wrap .i64 (Int.tdiv (IntKind.wrap .i64 (s1 - (1 : Int))) (2 : Int))) == s1) (
  ret true) (
  bnd (drf x0) fun (p2 : Addr) =>
  bnd (ld .sl p2) fun (v3 : Sl) =>
  bnd (f101_sched_timers_Less v3 s1 (IntKind.wrap .i64 (Int.tdiv (IntKind.wrap .i64 (s1 - (1 : Int))) (2 : Int)))) fun (r4 : Bool) =>
  ret (!r4))) fun (b5 : Bool) =>
  cnd b5 (
  ret (Sum.inr ())) (
  bnd (drf x0) fun (p6 : Addr) =>
  bnd (ld .sl p6) fun (v7 : Sl) =>
  bnd (f102_sched_timers_Swap v7 (IntKind.wrap .i64 (Int.tdiv (IntKind.wrap .i64 (s1 - (1 : Int))) (2 : Int))) s1) fun (r8 : Unit) =>
  ret (Sum.inl (IntKind.wrap .i64 (Int.tdiv (IntKind.wrap .i64 (s1 - (1 : Int))) (2 : Int)))))) x1
noncomputable def Af76_heap_up : Ann := (.one (.loop [(1, (.int .i64))] [4, 5, 6, 7, 8, 9, 10, 11, 12, 13, 14, 15, 16, 17, 18, 19, 20, 21, 22] (.one (.two .nil (.two (.two .nil (.two .nil .nil)) (.two .nil .nil))))))
theorem Cf76_heap_up_ok : Cf76_heap_up.Ok := mkC_ok mixed tysOk zerosOk eqsOk ⟨Sf101_sched_timers_Less, Sf102_sched_timers_Swap, trivial⟩ trivial
theorem Ef76_heap_up (x : (Option Addr × Int)) : evF Cf76_heap_up Try.f76 23 (.pair (.ifc 82 .ptr) (.int .i64)) (.tup .unit) Af76_heap_up x = f76_heap_up x.1 x.2 := by kernel_rfl
theorem Sf76_heap_up : SoundF Try.prog 76 ⟨(.pair (.ifc 82 .ptr) (.int .i64)), (.tup .unit), fun x => f76_heap_up x.1 x.2⟩ :=
  soundF_of Cf76_heap_up_ok Try.func76 (by kernel_rfl) (by kernel_rfl) Ef76_heap_up
noncomputable def Cf63_heap_Push : Ctx := mkC Try.prog tys zeros eqs [(76, ⟨(.pair (.ifc 82 .ptr) (.int .i64)), (.tup .unit), fun x => f76_heap_up x.1 x.2⟩), (100, ⟨.sl, (.int .i64), fun x => f100_sched_timers_Len x⟩), (104, ⟨(.pair .ptr (.ifc 71 (.agg (.pair (.int .i64) (.pair (.int .i64) (.int .i64)))))), (.tup .unit), fun x => f104_sched_timers_Push x.1 x.2⟩)] []
/-- containerheap.Push -/
noncomputable def f63_heap_Push (x0 : Option Addr) (x1 : (Int × (Int × Int))) : M Unit :=
  bnd (f104_sched_timers_Push x0 x1) fun (r1 : Unit) =>
  bnd (drf x0) fun (p2 : Addr) =>
  bnd (ld .sl p2) fun (v3 : Sl) =>
  bnd (f100_sched_timers_Len v3) fun (r4 : Int) =>
  bnd (f76_heap_up x0 (IntKind.wrap .i64 (r4 - (1 : Int)))) fun (r5 : Unit) =>
  ret ()
noncomputable def Af63_heap_Push : Ann := (.two .nil .nil)
theorem Cf63_heap_Push_ok : Cf63_heap_Push.Ok := mkC_ok mixed tysOk zerosOk eqsOk ⟨Sf76_heap_up, Sf100_sched_timers_Len, Sf104_sched_timers_Push, trivial⟩ trivial
theorem Ef63_heap_Push (x : (Option Addr × (Int × (Int × Int)))) : evF Cf63_heap_Push Try.f63 12 (.pair (.ifc 82 .ptr) (.ifc 71 (.agg (.pair (.int .i64) (.pair (.int .i64) (.int .i64)))))) (.tup .unit) Af63_heap_Push x = f63_heap_Push x.1 x.2 := by kernel_rfl
theorem Sf63_heap_Push : SoundF Try.prog 63 ⟨(.pair (.ifc 82 .ptr) (.ifc 71 (.agg (.pair (.int .i64) (.pair (.int .i64) (.int .i64)))))), (.tup .unit), fun x => f63_heap_Push x.1 x.2⟩ :=
  soundF_of Cf63_heap_Push_ok Try.func63 (by kernel_rfl) (by kernel_rfl) Ef63_heap_Push
noncomputable def Cf46_sched_Sched_later : Ctx := mkC Try.prog tys zeros eqs [(63, ⟨(.pair (.ifc 82 .ptr) (.ifc 71 (.agg (.pair (.int .i64) (.pair (.int .i64) (.int .i64)))))), (.tup .unit), fun x => f63_heap_Push x.1 x.2⟩)] []
/-- (*palaversched.Sched).later -/
noncomputable def f46_sched_Sched_later (x0 : Option Addr) (x1 : Int) (x2 : Int) : M Unit :=
  bnd (drf x0) fun (p1 : Addr) =>
  bnd (ld (.int .i64) (Addr.add p1 22)) fun (v2 : Int) =>
  bnd (drf x0) fun (p3 : Addr) =>
  bnd (wrs (Addr.add p3 22) 0 [.int .i64 (IntKind.wrap .i64 (v2 + (1 : Int)))]) fun _ =>
  bnd (
  bnd (ordM 46 1 (regionIn 1 Try.f46)) fun (o5 : List Nat) =>
  bnd (drf x0) fun (p6 : Addr) =>
  bnd (drf x0) fun (p7 : Addr) =>
  bnd (ld (.int .i64) (Addr.add p7 22)) fun (v8 : Int) =>
  bnd (f63_heap_Push (some (Addr.add p6 21)) (x1, v8, x2)) fun (r9 : Unit) =>
  bnd (
  bnd (chk (.int .i64) (Addr.add p7 22) v8) fun _ =>
  ret ()) fun _ =>
  ret ()) fun (s4 : Unit) =>
  ret ()
noncomputable def Af46_sched_Sched_later : Ann := (.two .nil (.join [] [13, 14, 15, 16, 17, 18, 19, 20, 21, 22, 23, 24, 25] false (.ord 46 [(0, 8190), (1, 8188), (2, 8185), (4, 8179), (0, 8175), (0, 8159), (32, 8095), (64, 7999), (128, 7807), (0, 7679), (784, 6383), (1024, 5119), (2056, 2039)] (.o 0 (.o 1 (.o 2 (.o 3 (.o 4 (.o 5 (.o 6 (.o 7 (.o 8 (.o 9 (.o 10 (.o 11 (.o 12 .done))))))))))))))))
theorem Cf46_sched_Sched_later_ok : Cf46_sched_Sched_later.Ok := mkC_ok mixed tysOk zerosOk eqsOk ⟨Sf63_heap_Push, trivial⟩ trivial
theorem Ef46_sched_Sched_later (x : (Option Addr × (Int × Int))) : evF Cf46_sched_Sched_later Try.f46 26 (.pair .ptr (.pair (.int .i64) (.int .i64))) (.tup .unit) Af46_sched_Sched_later x = f46_sched_Sched_later x.1 x.2.1 x.2.2 := by kernel_rfl
theorem Sf46_sched_Sched_later : SoundF Try.prog 46 ⟨(.pair .ptr (.pair (.int .i64) (.int .i64))), (.tup .unit), fun x => f46_sched_Sched_later x.1 x.2.1 x.2.2⟩ :=
  soundF_of Cf46_sched_Sched_later_ok Try.func46 (by kernel_rfl) (by kernel_rfl) Ef46_sched_Sched_later
noncomputable def Cf23_sched_Sched_At : Ctx := mkC Try.prog tys zeros eqs [(31, ⟨(.pair .ptr (.int .i64)), .ptr, fun x => f31_sched_Sched_sem x.1 x.2⟩), (46, ⟨(.pair .ptr (.pair (.int .i64) (.int .i64))), (.tup .unit), fun x => f46_sched_Sched_later x.1 x.2.1 x.2.2⟩)] []
/-- (*palaversched.Sched).At -/
noncomputable def f23_sched_Sched_At (x0 : Option Addr) (x1 : Int) (x2 : Int) : M Int :=
  bnd (f31_sched_Sched_sem x0 x1) fun (r1 : Option Addr) =>
  cnd (Option.isNone r1) (
  ret (261 : Int)) (
  cnd (cond (decide (x2 < (0 : Int))) true (decide (x2 > (1152921504606846976 : Int)))) (
  ret (1 : Int)) (
  bnd (drf x0) fun (p2 : Addr) =>
  bnd (ld .sl (Addr.add p2 21)) fun (v3 : Sl) =>
  cnd (decide ((v3.len : Int) ≥ (4096 : Int))) (
  ret (264 : Int)) (
  bnd (f46_sched_Sched_later x0 x2 x1) fun (r4 : Unit) =>
  ret (0 : Int))))
noncomputable def Af23_sched_Sched_At : Ann := (.two .nil (.two (.one (.two .nil (.two (.two .nil .nil) (.two .nil (.two (.two .nil .nil) (.two .nil (.two (.two .nil .nil) .nil))))))) (.two .nil (.two .nil .nil))))
theorem Cf23_sched_Sched_At_ok : Cf23_sched_Sched_At.Ok := mkC_ok mixed tysOk zerosOk eqsOk ⟨Sf31_sched_Sched_sem, Sf46_sched_Sched_later, trivial⟩ trivial
theorem Ef23_sched_Sched_At (x : (Option Addr × (Int × Int))) : evF Cf23_sched_Sched_At Try.f23 30 (.pair .ptr (.pair (.int .i64) (.int .i64))) (.int .i64) Af23_sched_Sched_At x = f23_sched_Sched_At x.1 x.2.1 x.2.2 := by kernel_rfl
theorem Sf23_sched_Sched_At : SoundF Try.prog 23 ⟨(.pair .ptr (.pair (.int .i64) (.int .i64))), (.int .i64), fun x => f23_sched_Sched_At x.1 x.2.1 x.2.2⟩ :=
  soundF_of Cf23_sched_Sched_At_ok Try.func23 (by kernel_rfl) (by kernel_rfl) Ef23_sched_Sched_At
noncomputable def Cf103_sched_timers_Pop : Ctx := mkC Try.prog tys zeros eqs [] []
/-- (*palaversched.timers).Pop -/
noncomputable def f103_sched_timers_Pop (x0 : Option Addr) : M (Int × (Int × Int)) :=
  bnd (drf x0) fun (p1 : Addr) =>
  bnd (ld .sl p1) fun (v2 : Sl) =>
  bnd (drf x0) fun (p3 : Addr) =>
  bnd (ld .sl p3) fun (v4 : Sl) =>
  bnd (ix 3 v4 (IntKind.wrap .i64 ((v2.len : Int) - (1 : Int)))) fun (p5 : Addr) =>
  bnd (ld (.agg (.pair (.int .i64) (.pair (.int .i64) (.int .i64)))) p5) fun (v6 : (Int × (Int × Int))) =>
  bnd (newC 71 [.int .i64 (0 : Int), .int .i64 (0 : Int), .int .i64 (0 : Int)]) fun (p7 : Addr) =>
  bnd (wrs p7 0 [.int .i64 v6.1, .int .i64 v6.2.1, .int .i64 v6.2.2]) fun _ =>
  bnd (drf x0) fun (p8 : Addr) =>
  bnd (ld .sl p8) fun (v9 : Sl) =>
  bnd (slc 3 v9 none (some (IntKind.wrap .i64 ((v2.len : Int) - (1 : Int)))) (some (IntKind.wrap .i64 ((v2.len : Int) - (1 : Int))))) fun (v10 : Sl) =>
  bnd (drf x0) fun (p11 : Addr) =>
  bnd (wrs p11 0 [.slice v10.a v10.len v10.cap]) fun _ =>
  bnd (ld (.agg (.pair (.int .i64) (.pair (.int .i64) (.int .i64)))) p7) fun (v12 : (Int × (Int × Int))) =>
  ret v12
noncomputable def Af103_sched_timers_Pop : Ann := (.two .nil (.two .nil (.two .nil (.two .nil (.two .nil .nil)))))
theorem Cf103_sched_timers_Pop_ok : Cf103_sched_timers_Pop.Ok := mkC_ok mixed tysOk zerosOk eqsOk trivial trivial
theorem Ef103_sched_timers_Pop (x : Option Addr) : evF Cf103_sched_timers_Pop Try.f103 26 .ptr (.ifc 71 (.agg (.pair (.int .i64) (.pair (.int .i64) (.int .i64))))) Af103_sched_timers_Pop x = f103_sched_timers_Pop x := by kernel_rfl
theorem Sf103_sched_timers_Pop : SoundF Try.prog 103 ⟨.ptr, (.ifc 71 (.agg (.pair (.int .i64) (.pair (.int .i64) (.int .i64))))), fun x => f103_sched_timers_Pop x⟩ :=
  soundF_of Cf103_sched_timers_Pop_ok Try.func103 (by kernel_rfl) (by kernel_rfl) Ef103_sched_timers_Pop
noncomputable def Cf64_heap_down : Ctx := mkC Try.prog tys zeros eqs [(101, ⟨(.pair .sl (.pair (.int .i64) (.int .i64))), .bool, fun x => f101_sched_timers_Less x.1 x.2.1 x.2.2⟩), (102, ⟨(.pair .sl (.pair (.int .i64) (.int .i64))), (.tup .unit), fun x => f102_sched_timers_Swap x.1 x.2.1 x.2.2⟩)] []
/-- containerheap.down -/
noncomputable def f64_heap_down (x0 : Option Addr) (x1 : Int) (x2 : Int) : M Bool :=
  bnd (
  loopM (fun (s2 : Int) =>
  cnd (cond (decide ((IntKind.wrap .i64 ((IntKind.wrap .i64 ((2 : Int) * s2)) + (1 : Int))) ≥ x2)) true (decide ((IntKind.wrap .i64 ((IntKind.wrap .i64 ((2 : Int) * s2)) + (1 : Int))) < (0 : Int)))) (
  ret (Sum.inr s2)) (
  bnd (
  cnd (decide ((IntKind.wrap .i64 ((IntKind.wrap .i64 ((IntKind.wrap .i64 ((2 : Int) * s2)) + (1 : Int))) + (1 : Int))) < x2)) (
  bnd (drf x0) fun (p3 : Addr) =>
  bnd (ld .sl p3) fun (v4 : Sl) =>
  bnd (f101_sched_timers_Less v4 (IntKind.wrap .i64 ((IntKind.wrap .i64 ((IntKind.wrap .i64 ((2 : Int) * s2)) + (1 : Int))) + (1 : Int))) (IntKind.wrap .i64 ((IntKind.wrap .i64 ((2 : Int) * s2)) + (1 : Int)))) fun (r5 : Bool) =>
  ret r5) (
  ret false)) fun (b6 : Bool) =>
  bnd (
  cnd b6 (
  ret (IntKind.wrap .i64 ((IntKind.wrap .i64 ((IntKind.wrap .i64 ((2 : Int) * s2)) + (1 : Int))) + (1 : Int)))) (
  ret (IntKind.wrap .i64 ((IntKind.wrap .i64 ((2 : Int) * s2)) + (1 : Int))))) fun (s7 : Int) =>
  bnd (drf x0) fun (p8 : Addr) =>
  bnd (ld .sl p8) fun (v9 : Sl) =>
  bnd (f101_sched_timers_Less v9 s7 s2) fun (r10 : Bool) =>
  cnd (!r10) (
  ret (Sum.inr s2)) (
  bnd (drf x0) fun (p11 : Addr) =>
  bnd (ld .sl p11) fun (v12 : Sl) =>
  bnd (f102_sched_timers_Swap v12 s2 s7) fun (r13 : Unit) =>
  ret (Sum.inl s7)))) x1) fun (s1 : Int) =>
  ret (decide (s1 > x1))
noncomputable def Af64_heap_down : Ann := (.two .nil (.two .nil (.two (.join [(7, (.int .i64))] [8, 9, 10, 12, 13, 14, 15, 16, 17, 18, 19, 20, 21, 22, 23, 24, 25, 26, 27, 28, 29, 30, 31, 32, 33, 34, 35, 36, 37, 38, 39, 40, 41, 42, 43, 44] false (.one (.loop [(7, (.int .i64))] [8, 9, 10, 12, 13, 14, 15, 16, 17, 18, 19, 20, 21, 22, 23, 24, 25, 26, 27, 28, 29, 30, 31, 32, 33, 34, 35, 36, 37, 38, 39, 40, 41, 42, 43, 44] (.one (.two .nil (.two (.two .nil (.two .nil .nil)) (.two .nil (.two (.two .nil (.two .nil (.join [(9, (.int .i64))] [34] false (.two .nil .nil)))) (.two (.two .nil (.two .nil .nil)) (.two .nil .nil)))))))))) (.two .nil .nil))))
theorem Cf64_heap_down_ok : Cf64_heap_down.Ok := mkC_ok mixed tysOk zerosOk eqsOk ⟨Sf101_sched_timers_Less, Sf102_sched_timers_Swap, trivial⟩ trivial
theorem Ef64_heap_down (x : (Option Addr × (Int × Int))) : evF Cf64_heap_down Try.f64 48 (.pair (.ifc 82 .ptr) (.pair (.int .i64) (.int .i64))) .bool Af64_heap_down x = f64_heap_down x.1 x.2.1 x.2.2 := by kernel_rfl
theorem Sf64_heap_down : SoundF Try.prog 64 ⟨(.pair (.ifc 82 .ptr) (.pair (.int .i64) (.int .i64))), .bool, fun x => f64_heap_down x.1 x.2.1 x.2.2⟩ :=
  soundF_of Cf64_heap_down_ok Try.func64 (by kernel_rfl) (by kernel_rfl) Ef64_heap_down
noncomputable def Cf47_heap_Pop : Ctx := mkC Try.prog tys zeros eqs [(64, ⟨(.pair (.ifc 82 .ptr) (.pair (.int .i64) (.int .i64))), .bool, fun x => f64_heap_down x.1 x.2.1 x.2.2⟩), (100, ⟨.sl, (.int .i64), fun x => f100_sched_timers_Len x⟩), (102, ⟨(.pair .sl (.pair (.int .i64) (.int .i64))), (.tup .unit), fun x => f102_sched_timers_Swap x.1 x.2.1 x.2.2⟩), (103, ⟨.ptr, (.ifc 71 (.agg (.pair (.int .i64) (.pair (.int .i64) (.int .i64))))), fun x => f103_sched_timers_Pop x⟩)] []
/-- containerheap.Pop -/
noncomputable def f47_heap_Pop (x0 : Option Addr) : M (Int × (Int × Int)) :=
  bnd (drf x0) fun (p1 : Addr) =>
  bnd (ld .sl p1) fun (v2 : Sl) =>
  bnd (f100_sched_timers_Len v2) fun (r3 : Int) =>
  bnd (drf x0) fun (p4 : Addr) =>
  bnd (ld .sl p4) fun (v5 : Sl) =>
  bnd (f102_sched_timers_Swap v5 (0 : Int) (IntKind.wrap .i64 (r3 - (1 : Int)))) fun (r6 : Unit) =>
  bnd (f64_heap_down x0 (0 : Int) (IntKind.wrap .i64 (r3 - (1 : Int)))) fun (r7 : Bool) =>
  bnd (f103_sched_timers_Pop x0) fun (r8 : (Int × (Int × Int))) =>
  ret r8
noncomputable def Af47_heap_Pop : Ann := (.two .nil (.two .nil (.two .nil (.two .nil (.two .nil .nil)))))
theorem Cf47_heap_Pop_ok : Cf47_heap_Pop.Ok := mkC_ok mixed tysOk zerosOk eqsOk ⟨Sf64_heap_down, Sf100_sched_timers_Len, Sf102_sched_timers_Swap, Sf103_sched_timers_Pop, trivial⟩ trivial
theorem Ef47_heap_Pop (x : Option Addr) : evF Cf47_heap_Pop Try.f47 15 (.ifc 82 .ptr) (.ifc 71 (.agg (.pair (.int .i64) (.pair (.int .i64) (.int .i64))))) Af47_heap_Pop x = f47_heap_Pop x := by kernel_rfl
theorem Sf47_heap_Pop : SoundF Try.prog 47 ⟨(.ifc 82 .ptr), (.ifc 71 (.agg (.pair (.int .i64) (.pair (.int .i64) (.int .i64))))), fun x => f47_heap_Pop x⟩ :=
  soundF_of Cf47_heap_Pop_ok Try.func47 (by kernel_rfl) (by kernel_rfl) Ef47_heap_Pop
noncomputable def Bf24_sched_Sched_Tick : Ctx := mkC Try.prog tys zeros eqs [(43, ⟨(.pair .ptr (.int .i64)), (.int .i64), fun x => f43_sched_Sched_signal x.1 x.2⟩), (47, ⟨(.ifc 82 .ptr), (.ifc 71 (.agg (.pair (.int .i64) (.pair (.int .i64) (.int .i64))))), fun x => f47_heap_Pop x⟩)] []
noncomputable def Cf24_sched_Sched_Tick : Ctx := Bf24_sched_Sched_Tick.with [(33, ⟨.ptr, (.tup .unit), fun x => f33_sched_Sched_runs x⟩)] []
/-- (*palaversched.Sched).Tick -/
noncomputable def f24_sched_Sched_Tick (x0 : Option Addr) (x1 : Int) : M (Int × Int) :=
  bnd (drf x0) fun (p1 : Addr) =>
  bnd (ld (.int .i64) (Addr.add p1 0)) fun (v2 : Int) =>
  cnd (cond (decide (x1 < v2)) true (decide (x1 > (1152921504606846976 : Int)))) (
  ret ((0 : Int), (1 : Int))) (
  bnd (drf x0) fun (p3 : Addr) =>
  bnd (wrs (Addr.add p3 0) 0 [.int .i64 x1]) fun _ =>
  loopM (fun (s4 : Int) =>
  bnd (drf x0) fun (p5 : Addr) =>
  bnd (ld .sl (Addr.add p5 21)) fun (v6 : Sl) =>
  bnd (
  cnd (decide ((v6.len : Int) > (0 : Int))) (
  bnd (drf x0) fun (p7 : Addr) =>
  bnd (ld .sl (Addr.add p7 21)) fun (v8 : Sl) =>
  bnd (ix 3 v8 (0 : Int)) fun (p9 : Addr) =>
  bnd (ld (.int .i64) (Addr.add p9 0)) fun (v10 : Int) =>
  ret (decide (v10 ≤ x1))) (
  ret false)) fun (b11 : Bool) =>
  cnd b11 (
  bnd (drf x0) fun (p12 : Addr) =>
  bnd (f47_heap_Pop (some (Addr.add p12 21))) fun (r13 : (Int × (Int × Int))) =>
  bnd (f43_sched_Sched_signal x0 r13.2.2) fun (r14 : Int) =>
  ret (Sum.inl (IntKind.wrap .i64 (s4 + (1 : Int))))) (
  bnd (
  bnd (f33_sched_Sched_runs x0) fun _ =>
  ret (s4, (0 : Int))) fun r15 =>
  ret (Sum.inr r15))) (0 : Int))
noncomputable def Af24_sched_Sched_Tick : Ann := (.two .nil (.two (.two .nil (.two (.two .nil .nil) .nil)) (.two .dfr (.two .nil (.two (.one (.loop [(4, (.int .i64))] [21, 22, 23, 24, 25, 26, 27, 28, 29, 30, 31, 32, 33, 34, 35, 36, 37, 38, 39, 40, 41, 42, 43, 44, 45, 46, 47, 48] (.two (.two .nil (.two .nil .nil)) (.one (.two .nil .nil))))) (.two .nil .nil))))))
theorem Bf24_sched_Sched_Tick_ok : Bf24_sched_Sched_Tick.Ok := mkC_ok mixed tysOk zerosOk eqsOk ⟨Sf43_sched_Sched_signal, Sf47_heap_Pop, trivial⟩ trivial
theorem Cf24_sched_Sched_Tick_ok : Cf24_sched_Sched_Tick.Ok := with_ok Bf24_sched_Sched_Tick_ok ⟨SDf33, trivial⟩ trivial
theorem Ef24_sched_Sched_Tick (x : (Option Addr × Int)) : evF Cf24_sched_Sched_Tick Try.f24 50 (.pair .ptr (.int .i64)) (.tup (.pair (.int .i64) (.int .i64))) Af24_sched_Sched_Tick x = f24_sched_Sched_Tick x.1 x.2 := by kernel_rfl
theorem Sf24_sched_Sched_Tick : SoundF Try.prog 24 ⟨(.pair .ptr (.int .i64)), (.tup (.pair (.int .i64) (.int .i64))), fun x => f24_sched_Sched_Tick x.1 x.2⟩ :=
  soundF_of Cf24_sched_Sched_Tick_ok Try.func24 (by kernel_rfl) (by kernel_rfl) Ef24_sched_Sched_Tick
noncomputable def Cf13_sched_Sched_Waiting : Ctx := mkC Try.prog tys zeros eqs [(31, ⟨(.pair .ptr (.int .i64)), .ptr, fun x => f31_sched_Sched_sem x.1 x.2⟩), (32, ⟨.sl, .sl, fun x => f32_slices_Cloneint_int x⟩)] []
/-- (*palaversched.Sched).Waiting -/
noncomputable def f13_sched_Sched_Waiting (x0 : Option Addr) (x1 : Int) : M (Sl × (Int × Int)) :=
  bnd (f31_sched_Sched_sem x0 x1) fun (r1 : Option Addr) =>
  cnd (Option.isNone r1) (
  ret ((Sl.mk none 0 0), (0 : Int), (261 : Int))) (
  bnd (
  bnd (ordM 13 4 (regionIn 4 Try.f13)) fun (o3 : List Nat) =>
  bnd (drf r1) fun (p4 : Addr) =>
  bnd (ld .sl (Addr.add p4 1)) fun (v5 : Sl) =>
  bnd (drf r1) fun (p6 : Addr) =>
  bnd (ld (.int .i64) (Addr.add p6 0)) fun (v7 : Int) =>
  bnd (f32_slices_Cloneint_int v5) fun (r8 : Sl) =>
  bnd (
  bnd (chk (.int .i64) (Addr.add p6 0) v7) fun _ =>
  ret ()) fun _ =>
  ret (r8, v7, (0 : Int))) fun (s2 : (Sl × (Int × Int))) =>
  ret (s2.1, s2.2.1, s2.2.2))
noncomputable def Af13_sched_Sched_Waiting : Ann := (.two .nil (.two .nil (.two (.two .nil (.two (.two .nil .nil) .nil)) (.two (.join [(4, .sl), (5, (.int .i64)), (6, (.int .i64))] [13, 14, 15, 16, 17, 18, 19, 20, 21] false (.ord 13 [(0, 4094), (1, 4092), (2, 4089), (4, 4083), (8, 4071), (0, 4063), (32, 3999), (64, 3903), (128, 3711), (31, 3567), (1023, 2815), (2047, 2047)] (.o 0 (.o 1 (.o 2 (.o 3 (.o 5 (.o 6 (.o 7 (.o 8 (.o 4 (.o 9 (.o 10 (.o 11 .done)))))))))))))) .nil))))
theorem Cf13_sched_Sched_Waiting_ok : Cf13_sched_Sched_Waiting.Ok := mkC_ok mixed tysOk zerosOk eqsOk ⟨Sf31_sched_Sched_sem, Sf32_slices_Cloneint_int, trivial⟩ trivial
theorem Ef13_sched_Sched_Waiting (x : (Option Addr × Int)) : evF Cf13_sched_Sched_Waiting Try.f13 22 (.pair .ptr (.int .i64)) (.tup (.pair .sl (.pair (.int .i64) (.int .i64)))) Af13_sched_Sched_Waiting x = f13_sched_Sched_Waiting x.1 x.2 := by kernel_rfl
theorem Sf13_sched_Sched_Waiting : SoundF Try.prog 13 ⟨(.pair .ptr (.int .i64)), (.tup (.pair .sl (.pair (.int .i64) (.int .i64)))), fun x => f13_sched_Sched_Waiting x.1 x.2⟩ :=
  soundF_of Cf13_sched_Sched_Waiting_ok Try.func13 (by kernel_rfl) (by kernel_rfl) Ef13_sched_Sched_Waiting
noncomputable def Bf25_sched_Sched_Resume : Ctx := mkC Try.prog tys zeros eqs [(30, ⟨(.pair .ptr (.int .i64)), .ptr, fun x => f30_sched_Sched_of x.1 x.2⟩), (34, ⟨(.pair .ptr (.int .i64)), (.tup .unit), fun x => f34_sched_Sched_ready x.1 x.2⟩), (44, ⟨(.pair .ptr (.int .i64)), (.int .i64), fun x => f44_sched_Sched_alive x.1 x.2⟩)] []
noncomputable def Cf25_sched_Sched_Resume : Ctx := Bf25_sched_Sched_Resume.with [(33, ⟨.ptr, (.tup .unit), fun x => f33_sched_Sched_runs x⟩)] []
/-- (*palaversched.Sched).Resume -/
noncomputable def f25_sched_Sched_Resume (x0 : Option Addr) (x1 : Int) : M Int :=
  bnd (f44_sched_Sched_alive x0 x1) fun (r1 : Int) =>
  cnd (r1 != (0 : Int)) (
  ret r1) (
  bnd (f30_sched_Sched_of x0 x1) fun (r2 : Option Addr) =>
  bnd (drf r2) fun (p3 : Addr) =>
  bnd (ld (.int .u8) (Addr.add p3 1)) fun (v4 : Int) =>
  cnd (v4 != (4 : Int)) (
  ret (262 : Int)) (
  bnd (f34_sched_Sched_ready x0 x1) fun (r5 : Unit) =>
  bnd (f33_sched_Sched_runs x0) fun _ =>
  ret (0 : Int)))
noncomputable def Af25_sched_Sched_Resume : Ann := (.two .nil (.two .nil (.two (.one (.two .nil (.two (.two .nil .nil) (.two .nil (.two (.two .nil .nil) .nil))))) (.two .dfr (.two .nil (.two .nil .nil))))))
theorem Bf25_sched_Sched_Resume_ok : Bf25_sched_Sched_Resume.Ok := mkC_ok mixed tysOk zerosOk eqsOk ⟨Sf30_sched_Sched_of, Sf34_sched_Sched_ready, Sf44_sched_Sched_alive, trivial⟩ trivial
theorem Cf25_sched_Sched_Resume_ok : Cf25_sched_Sched_Resume.Ok := with_ok Bf25_sched_Sched_Resume_ok ⟨SDf33, trivial⟩ trivial
theorem Ef25_sched_Sched_Resume (x : (Option Addr × Int)) : evF Cf25_sched_Sched_Resume Try.f25 25 (.pair .ptr (.int .i64)) (.int .i64) Af25_sched_Sched_Resume x = f25_sched_Sched_Resume x.1 x.2 := by kernel_rfl
theorem Sf25_sched_Sched_Resume : SoundF Try.prog 25 ⟨(.pair .ptr (.int .i64)), (.int .i64), fun x => f25_sched_Sched_Resume x.1 x.2⟩ :=
  soundF_of Cf25_sched_Sched_Resume_ok Try.func25 (by kernel_rfl) (by kernel_rfl) Ef25_sched_Sched_Resume
noncomputable def Cf7_palaverlaw26_works : Ctx := mkC Try.prog tys zeros eqs [(8, ⟨.unit, .ptr, fun _ => f8_sched_New⟩), (9, ⟨.ptr, (.int .i64), fun x => f9_sched_Sched_Active x⟩), (11, ⟨.ptr, .sl, fun x => f11_sched_Sched_Ready x⟩), (13, ⟨(.pair .ptr (.int .i64)), (.tup (.pair .sl (.pair (.int .i64) (.int .i64)))), fun x => f13_sched_Sched_Waiting x.1 x.2⟩), (14, ⟨(.pair .sl .sl), .bool, fun x => f14_palaverref00_SameInts x.1 x.2⟩), (15, ⟨.ptr, (.int .i64), fun x => f15_sched_Sched_Yield x⟩), (18, ⟨(.pair .ptr (.int .i64)), (.tup (.pair (.int .i64) (.int .i64))), fun x => f18_sched_Sched_Fork x.1 x.2⟩), (19, ⟨.ptr, (.tup (.pair (.int .i64) (.int .i64))), fun x => f19_sched_Sched_Semaphore x⟩), (20, ⟨(.pair .ptr (.int .i64)), (.int .i64), fun x => f20_sched_Sched_Wait x.1 x.2⟩), (21, ⟨(.pair .ptr (.int .i64)), (.int .i64), fun x => f21_sched_Sched_Signal x.1 x.2⟩), (22, ⟨(.pair .ptr (.int .i64)), (.int .i64), fun x => f22_sched_Sched_Terminate x.1 x.2⟩), (23, ⟨(.pair .ptr (.pair (.int .i64) (.int .i64))), (.int .i64), fun x => f23_sched_Sched_At x.1 x.2.1 x.2.2⟩), (24, ⟨(.pair .ptr (.int .i64)), (.tup (.pair (.int .i64) (.int .i64))), fun x => f24_sched_Sched_Tick x.1 x.2⟩), (25, ⟨(.pair .ptr (.int .i64)), (.int .i64), fun x => f25_sched_Sched_Resume x.1 x.2⟩)] []
/-- palaverpalaverlaw26.works -/
noncomputable def f7_palaverlaw26_works : M Bool :=
  bnd f8_sched_New fun (r1 : Option Addr) =>
  cnd (Option.isNone r1) (
  ret false) (
  bnd (f18_sched_Sched_Fork r1 (5 : Int)) fun (r2 : (Int × Int)) =>
  bnd (f18_sched_Sched_Fork r1 (5 : Int)) fun (r3 : (Int × Int)) =>
  bnd (f18_sched_Sched_Fork r1 (7 : Int)) fun (r4 : (Int × Int)) =>
  bnd (f9_sched_Sched_Active r1) fun (r5 : Int) =>
  bnd (f11_sched_Sched_Ready r1) fun (r6 : Sl) =>
  bnd (runV Try.prog .sl (Instr.buildSlice 31 2 #[(0, .int .i64 (1 : Int)), (1, .int .i64 (2 : Int))])) fun (v7 : Sl) =>
  bnd (f14_palaverref00_SameInts r6 v7) fun (r8 : Bool) =>
  bnd (f19_sched_Sched_Semaphore r1) fun (r9 : (Int × Int)) =>
  bnd (f20_sched_Sched_Wait r1 (1 : Int)) fun (r10 : Int) =>
  bnd (f9_sched_Sched_Active r1) fun (r11 : Int) =>
  bnd (f21_sched_Sched_Signal r1 (1 : Int)) fun (r12 : Int) =>
  bnd (f9_sched_Sched_Active r1) fun (r13 : Int) =>
  bnd (f22_sched_Sched_Terminate r1 (3 : Int)) fun (r14 : Int) =>
  bnd (f15_sched_Sched_Yield r1) fun (r15 : Int) =>
  bnd (f9_sched_Sched_Active r1) fun (r16 : Int) =>
  bnd (f23_sched_Sched_At r1 (1 : Int) (10 : Int)) fun (r17 : Int) =>
  bnd (f23_sched_Sched_At r1 (1 : Int) (5 : Int)) fun (r18 : Int) =>
  bnd (f24_sched_Sched_Tick r1 (10 : Int)) fun (r19 : (Int × Int)) =>
  bnd (f13_sched_Sched_Waiting r1 (1 : Int)) fun (r20 : (Sl × (Int × Int))) =>
  bnd (f18_sched_Sched_Fork r1 (17 : Int)) fun (r21 : (Int × Int)) =>
  bnd (f25_sched_Sched_Resume r1 (9 : Int)) fun (r22 : Int) =>
  ret (cond (cond (cond (cond (cond (cond (cond (cond (cond (cond (cond (cond (cond (cond (cond (cond (cond (cond (cond (cond (cond (r2.1 == (1 : Int)) (r2.2 == (0 : Int)) false) (r3.1 == (2 : Int)) false) (r3.2 == (0 : Int)) false) (r4.1 == (3 : Int)) false) (r4.2 == (0 : Int)) false) (r5 == (3 : Int)) false) r8 false) (r9.1 == (1 : Int)) false) (r9.2 == (0 : Int)) false) (r10 == (0 : Int)) false) (r11 == (1 : Int)) false) (r12 == (0 : Int)) false) (r13 == (3 : Int)) false) (cond (cond (cond (cond (cond (cond (cond (cond (cond (cond (cond (cond (cond (cond (cond (r14 == (0 : Int)) (r15 == (0 : Int)) false) (r16 == (2 : Int)) false) (r17 == (0 : Int)) false) (r18 == (0 : Int)) false) (r19.1 == (2 : Int)) false) (r19.2 == (0 : Int)) false) (r20.2.1 == (2 : Int)) false) (r21.2 == (1 : Int)) false) (r22 == (260 : Int)) false) true false) true false) true false) true false) true false) true false) false) true false) true false) true false) true false) true false) true false) true false))
noncomputable def Af7_palaverlaw26_works : Ann := (.two .nil (.two .nil (.two (.two .nil (.two (.two .nil .nil) .nil)) (.two .nil (.two .nil (.two .nil (.two .nil (.two .nil (.two .nil (.two .nil (.two .nil (.two .nil (.two .nil (.two .nil (.two .nil (.two .nil (.two .nil (.two .nil (.two .nil (.two .nil (.two .nil (.two .nil (.two .nil (.two .nil (.two .nil (.two .nil .nil))))))))))))))))))))))))))
theorem Cf7_palaverlaw26_works_ok : Cf7_palaverlaw26_works.Ok := mkC_ok mixed tysOk zerosOk eqsOk ⟨Sf8_sched_New, Sf9_sched_Sched_Active, Sf11_sched_Sched_Ready, Sf13_sched_Sched_Waiting, Sf14_palaverref00_SameInts, Sf15_sched_Sched_Yield, Sf18_sched_Sched_Fork, Sf19_sched_Sched_Semaphore, Sf20_sched_Sched_Wait, Sf21_sched_Sched_Signal, Sf22_sched_Sched_Terminate, Sf23_sched_Sched_At, Sf24_sched_Sched_Tick, Sf25_sched_Sched_Resume, trivial⟩ trivial
theorem Ef7_palaverlaw26_works (x : Unit) : evF Cf7_palaverlaw26_works Try.f7 219 .unit .bool Af7_palaverlaw26_works x = f7_palaverlaw26_works := by kernel_rfl
theorem Sf7_palaverlaw26_works : SoundF Try.prog 7 ⟨.unit, .bool, fun _ => f7_palaverlaw26_works⟩ :=
  soundF_of Cf7_palaverlaw26_works_ok Try.func7 (by kernel_rfl) (by kernel_rfl) Ef7_palaverlaw26_works
noncomputable def Bf26_sched_Sched_Suspend : Ctx := mkC Try.prog tys zeros eqs [(30, ⟨(.pair .ptr (.int .i64)), .ptr, fun x => f30_sched_Sched_of x.1 x.2⟩), (44, ⟨(.pair .ptr (.int .i64)), (.int .i64), fun x => f44_sched_Sched_alive x.1 x.2⟩), (45, ⟨(.pair .ptr (.int .i64)), (.tup .unit), fun x => f45_sched_Sched_out x.1 x.2⟩)] []
noncomputable def Cf26_sched_Sched_Suspend : Ctx := Bf26_sched_Sched_Suspend.with [(33, ⟨.ptr, (.tup .unit), fun x => f33_sched_Sched_runs x⟩)] []
/-- (*palaversched.Sched).Suspend -/
noncomputable def f26_sched_Sched_Suspend (x0 : Option Addr) (x1 : Int) : M Int :=
  bnd (f44_sched_Sched_alive x0 x1) fun (r1 : Int) =>
  cnd (r1 != (0 : Int)) (
  ret r1) (
  bnd (f30_sched_Sched_of x0 x1) fun (r2 : Option Addr) =>
  bnd (drf r2) fun (p3 : Addr) =>
  bnd (ld (.int .u8) (Addr.add p3 1)) fun (v4 : Int) =>
  cnd (v4 == (4 : Int)) (
  ret (262 : Int)) (
  bnd (f45_sched_Sched_out x0 x1) fun (r5 : Unit) =>
  bnd (f30_sched_Sched_of x0 x1) fun (r6 : Option Addr) =>
  bnd (drf r6) fun (p7 : Addr) =>
  bnd (wrs (Addr.add p7 1) 0 [.int .u8 (4 : Int)]) fun _ =>
  bnd (f33_sched_Sched_runs x0) fun _ =>
  ret (0 : Int)))
noncomputable def Af26_sched_Sched_Suspend : Ann := (.two .nil (.two .nil (.two (.one (.two .nil (.two (.two .nil .nil) (.two .nil (.two (.two .nil .nil) .nil))))) (.two .dfr (.two .nil (.two .nil (.two .nil .nil)))))))
theorem Bf26_sched_Sched_Suspend_ok : Bf26_sched_Sched_Suspend.Ok := mkC_ok mixed tysOk zerosOk eqsOk ⟨Sf30_sched_Sched_of, Sf44_sched_Sched_alive, Sf45_sched_Sched_out, trivial⟩ trivial
theorem Cf26_sched_Sched_Suspend_ok : Cf26_sched_Sched_Suspend.Ok := with_ok Bf26_sched_Sched_Suspend_ok ⟨SDf33, trivial⟩ trivial
theorem Ef26_sched_Sched_Suspend (x : (Option Addr × Int)) : evF Cf26_sched_Sched_Suspend Try.f26 30 (.pair .ptr (.int .i64)) (.int .i64) Af26_sched_Sched_Suspend x = f26_sched_Sched_Suspend x.1 x.2 := by kernel_rfl
theorem Sf26_sched_Sched_Suspend : SoundF Try.prog 26 ⟨(.pair .ptr (.int .i64)), (.int .i64), fun x => f26_sched_Sched_Suspend x.1 x.2⟩ :=
  soundF_of Cf26_sched_Sched_Suspend_ok Try.func26 (by kernel_rfl) (by kernel_rfl) Ef26_sched_Sched_Suspend
noncomputable def Bf27_sched_Sched_SetPriority : Ctx := mkC Try.prog tys zeros eqs [(30, ⟨(.pair .ptr (.int .i64)), .ptr, fun x => f30_sched_Sched_of x.1 x.2⟩), (34, ⟨(.pair .ptr (.int .i64)), (.tup .unit), fun x => f34_sched_Sched_ready x.1 x.2⟩), (44, ⟨(.pair .ptr (.int .i64)), (.int .i64), fun x => f44_sched_Sched_alive x.1 x.2⟩), (45, ⟨(.pair .ptr (.int .i64)), (.tup .unit), fun x => f45_sched_Sched_out x.1 x.2⟩)] []
noncomputable def Cf27_sched_Sched_SetPriority : Ctx := Bf27_sched_Sched_SetPriority.with [(33, ⟨.ptr, (.tup .unit), fun x => f33_sched_Sched_runs x⟩)] []
/-- (*palaversched.Sched).SetPriority -/
noncomputable def f27_sched_Sched_SetPriority (x0 : Option Addr) (x1 : Int) (x2 : Int) : M Int :=
  bnd (f44_sched_Sched_alive x0 x1) fun (r1 : Int) =>
  cnd (r1 != (0 : Int)) (
  ret r1) (
  cnd (cond (decide (x2 < (1 : Int))) true (decide (x2 > (16 : Int)))) (
  ret (1 : Int)) (
  bnd (f30_sched_Sched_of x0 x1) fun (r2 : Option Addr) =>
  bnd (drf r2) fun (p3 : Addr) =>
  bnd (ld (.int .u8) (Addr.add p3 1)) fun (v4 : Int) =>
  cnd (v4 != (1 : Int)) (
  bnd (drf r2) fun (p5 : Addr) =>
  bnd (wrs (Addr.add p5 0) 0 [.int .i64 x2]) fun _ =>
  bnd (f33_sched_Sched_runs x0) fun _ =>
  ret (0 : Int)) (
  bnd (f45_sched_Sched_out x0 x1) fun (r6 : Unit) =>
  bnd (drf r2) fun (p7 : Addr) =>
  bnd (wrs (Addr.add p7 0) 0 [.int .i64 x2]) fun _ =>
  bnd (f34_sched_Sched_ready x0 x1) fun (r8 : Unit) =>
  bnd (f33_sched_Sched_runs x0) fun _ =>
  ret (0 : Int))))
noncomputable def Af27_sched_Sched_SetPriority : Ann := (.two .nil (.two .nil (.two (.one (.two .nil (.two (.two .nil .nil) (.two .nil (.two (.two .nil .nil) .nil))))) (.two .dfr (.two .nil (.two (.two .nil (.two (.two .nil (.two .nil .nil)) .nil)) (.two .nil (.two .nil (.two .nil (.two .nil .nil))))))))))
theorem Bf27_sched_Sched_SetPriority_ok : Bf27_sched_Sched_SetPriority.Ok := mkC_ok mixed tysOk zerosOk eqsOk ⟨Sf30_sched_Sched_of, Sf34_sched_Sched_ready, Sf44_sched_Sched_alive, Sf45_sched_Sched_out, trivial⟩ trivial
theorem Cf27_sched_Sched_SetPriority_ok : Cf27_sched_Sched_SetPriority.Ok := with_ok Bf27_sched_Sched_SetPriority_ok ⟨SDf33, trivial⟩ trivial
theorem Ef27_sched_Sched_SetPriority (x : (Option Addr × (Int × Int))) : evF Cf27_sched_Sched_SetPriority Try.f27 46 (.pair .ptr (.pair (.int .i64) (.int .i64))) (.int .i64) Af27_sched_Sched_SetPriority x = f27_sched_Sched_SetPriority x.1 x.2.1 x.2.2 := by kernel_rfl
theorem Sf27_sched_Sched_SetPriority : SoundF Try.prog 27 ⟨(.pair .ptr (.pair (.int .i64) (.int .i64))), (.int .i64), fun x => f27_sched_Sched_SetPriority x.1 x.2.1 x.2.2⟩ :=
  soundF_of Cf27_sched_Sched_SetPriority_ok Try.func27 (by kernel_rfl) (by kernel_rfl) Ef27_sched_Sched_SetPriority
noncomputable def Cf28_sched_Sched_Listen : Ctx := mkC Try.prog tys zeros eqs [(31, ⟨(.pair .ptr (.int .i64)), .ptr, fun x => f31_sched_Sched_sem x.1 x.2⟩)] []
/-- (*palaversched.Sched).Listen -/
noncomputable def f28_sched_Sched_Listen (x0 : Option Addr) (x1 : Int) (x2 : Int) : M Int :=
  cnd (cond (decide (x1 < (0 : Int))) true (decide (x1 ≥ (64 : Int)))) (
  ret (1 : Int)) (
  bnd (
  cnd (x2 != (0 : Int)) (
  bnd (f31_sched_Sched_sem x0 x2) fun (r1 : Option Addr) =>
  ret (Option.isNone r1)) (
  ret false)) fun (b2 : Bool) =>
  cnd b2 (
  ret (261 : Int)) (
  bnd (drf x0) fun (p3 : Addr) =>
  bnd (ixA 64 1 (Addr.add p3 23) x1) fun (p4 : Addr) =>
  bnd (wrs p4 0 [.int .i64 x2]) fun _ =>
  ret (0 : Int)))
noncomputable def Af28_sched_Sched_Listen : Ann := (.two .nil (.two (.one (.two .nil (.two (.two .nil .nil) (.two .nil (.two (.two .nil .nil) .nil))))) (.two .nil (.two .nil .nil))))
theorem Cf28_sched_Sched_Listen_ok : Cf28_sched_Sched_Listen.Ok := mkC_ok mixed tysOk zerosOk eqsOk ⟨Sf31_sched_Sched_sem, trivial⟩ trivial
theorem Ef28_sched_Sched_Listen (x : (Option Addr × (Int × Int))) : evF Cf28_sched_Sched_Listen Try.f28 29 (.pair .ptr (.pair (.int .i64) (.int .i64))) (.int .i64) Af28_sched_Sched_Listen x = f28_sched_Sched_Listen x.1 x.2.1 x.2.2 := by kernel_rfl
theorem Sf28_sched_Sched_Listen : SoundF Try.prog 28 ⟨(.pair .ptr (.pair (.int .i64) (.int .i64))), (.int .i64), fun x => f28_sched_Sched_Listen x.1 x.2.1 x.2.2⟩ :=
  soundF_of Cf28_sched_Sched_Listen_ok Try.func28 (by kernel_rfl) (by kernel_rfl) Ef28_sched_Sched_Listen
noncomputable def Cf29_sched_Sched_Event : Ctx := mkC Try.prog tys zeros eqs [(21, ⟨(.pair .ptr (.int .i64)), (.int .i64), fun x => f21_sched_Sched_Signal x.1 x.2⟩)] []
/-- (*palaversched.Sched).Event -/
noncomputable def f29_sched_Sched_Event (x0 : Option Addr) (x1 : Int) : M Bool :=
  bnd (
  cnd (cond (decide (x1 < (0 : Int))) true (decide (x1 ≥ (64 : Int)))) (
  ret true) (
  bnd (drf x0) fun (p1 : Addr) =>
  bnd (ixA 64 1 (Addr.add p1 23) x1) fun (p2 : Addr) =>
  bnd (ld (.int .i64) p2) fun (v3 : Int) =>
  ret (v3 == (0 : Int)))) fun (b4 : Bool) =>
  cnd b4 (
  ret false) (
  bnd (drf x0) fun (p5 : Addr) =>
  bnd (ixA 64 1 (Addr.add p5 23) x1) fun (p6 : Addr) =>
  bnd (ld (.int .i64) p6) fun (v7 : Int) =>
  bnd (f21_sched_Sched_Signal x0 v7) fun (r8 : Int) =>
  ret true)
noncomputable def Af29_sched_Sched_Event : Ann := (.two .nil (.two (.two .nil (.two (.two .nil .nil) .nil)) (.two .nil (.two .nil .nil))))
theorem Cf29_sched_Sched_Event_ok : Cf29_sched_Sched_Event.Ok := mkC_ok mixed tysOk zerosOk eqsOk ⟨Sf21_sched_Sched_Signal, trivial⟩ trivial
theorem Ef29_sched_Sched_Event (x : (Option Addr × Int)) : evF Cf29_sched_Sched_Event Try.f29 28 (.pair .ptr (.int .i64)) .bool Af29_sched_Sched_Event x = f29_sched_Sched_Event x.1 x.2 := by kernel_rfl
theorem Sf29_sched_Sched_Event : SoundF Try.prog 29 ⟨(.pair .ptr (.int .i64)), .bool, fun x => f29_sched_Sched_Event x.1 x.2⟩ :=
  soundF_of Cf29_sched_Sched_Event_ok Try.func29 (by kernel_rfl) (by kernel_rfl) Ef29_sched_Sched_Event
noncomputable def Cf10_palaverlaw26_call : Ctx := mkC Try.prog tys zeros eqs [(15, ⟨.ptr, (.int .i64), fun x => f15_sched_Sched_Yield x⟩), (18, ⟨(.pair .ptr (.int .i64)), (.tup (.pair (.int .i64) (.int .i64))), fun x => f18_sched_Sched_Fork x.1 x.2⟩), (19, ⟨.ptr, (.tup (.pair (.int .i64) (.int .i64))), fun x => f19_sched_Sched_Semaphore x⟩), (20, ⟨(.pair .ptr (.int .i64)), (.int .i64), fun x => f20_sched_Sched_Wait x.1 x.2⟩), (21, ⟨(.pair .ptr (.int .i64)), (.int .i64), fun x => f21_sched_Sched_Signal x.1 x.2⟩), (22, ⟨(.pair .ptr (.int .i64)), (.int .i64), fun x => f22_sched_Sched_Terminate x.1 x.2⟩), (23, ⟨(.pair .ptr (.pair (.int .i64) (.int .i64))), (.int .i64), fun x => f23_sched_Sched_At x.1 x.2.1 x.2.2⟩), (24, ⟨(.pair .ptr (.int .i64)), (.tup (.pair (.int .i64) (.int .i64))), fun x => f24_sched_Sched_Tick x.1 x.2⟩), (25, ⟨(.pair .ptr (.int .i64)), (.int .i64), fun x => f25_sched_Sched_Resume x.1 x.2⟩), (26, ⟨(.pair .ptr (.int .i64)), (.int .i64), fun x => f26_sched_Sched_Suspend x.1 x.2⟩), (27, ⟨(.pair .ptr (.pair (.int .i64) (.int .i64))), (.int .i64), fun x => f27_sched_Sched_SetPriority x.1 x.2.1 x.2.2⟩), (28, ⟨(.pair .ptr (.pair (.int .i64) (.int .i64))), (.int .i64), fun x => f28_sched_Sched_Listen x.1 x.2.1 x.2.2⟩), (29, ⟨(.pair .ptr (.int .i64)), .bool, fun x => f29_sched_Sched_Event x.1 x.2⟩)] []
/-- palaverpalaverlaw26.call -/
noncomputable def f10_palaverlaw26_call (x0 : Option Addr) (x1 : (Int × (Int × Int))) : M Int :=
  bnd (newC 30 [.int .i64 x1.1, .int .i64 x1.2.1, .int .i64 x1.2.2]) fun (p1 : Addr) =>
  bnd (ld (.int .i64) (Addr.add p1 0)) fun (v2 : Int) =>
  bnd (
  cnd (v2 == (1 : Int)) (
  bnd (ld (.int .i64) (Addr.add p1 1)) fun (v4 : Int) =>
  bnd (f18_sched_Sched_Fork x0 v4) fun (r5 : (Int × Int)) =>
  ret r5.2) (
  bnd (
  cnd (v2 == (2 : Int)) (
  bnd (f15_sched_Sched_Yield x0) fun (r7 : Int) =>
  ret r7) (
  bnd (
  cnd (v2 == (3 : Int)) (
  bnd (f19_sched_Sched_Semaphore x0) fun (r9 : (Int × Int)) =>
  ret r9.2) (
  bnd (
  cnd (v2 == (4 : Int)) (
  bnd (ld (.int .i64) (Addr.add p1 1)) fun (v11 : Int) =>
  bnd (f20_sched_Sched_Wait x0 v11) fun (r12 : Int) =>
  ret r12) (
  bnd (
  cnd (v2 == (5 : Int)) (
  bnd (ld (.int .i64) (Addr.add p1 1)) fun (v14 : Int) =>
  bnd (f21_sched_Sched_Signal x0 v14) fun (r15 : Int) =>
  ret r15) (
  bnd (
  cnd (v2 == (6 : Int)) (
  bnd (ld (.int .i64) (Addr.add p1 1)) fun (v17 : Int) =>
  bnd (f26_sched_Sched_Suspend x0 v17) fun (r18 : Int) =>
  ret r18) (
  bnd (
  cnd (v2 == (7 : Int)) (
  bnd (ld (.int .i64) (Addr.add p1 1)) fun (v20 : Int) =>
  bnd (f25_sched_Sched_Resume x0 v20) fun (r21 : Int) =>
  ret r21) (
  bnd (
  cnd (v2 == (8 : Int)) (
  bnd (ld (.int .i64) (Addr.add p1 1)) fun (v23 : Int) =>
  bnd (f22_sched_Sched_Terminate x0 v23) fun (r24 : Int) =>
  ret r24) (
  bnd (
  cnd (v2 == (9 : Int)) (
  bnd (ld (.int .i64) (Addr.add p1 1)) fun (v26 : Int) =>
  bnd (ld (.int .i64) (Addr.add p1 2)) fun (v27 : Int) =>
  bnd (f27_sched_Sched_SetPriority x0 v26 v27) fun (r28 : Int) =>
  ret r28) (
  bnd (
  cnd (v2 == (10 : Int)) (
  bnd (ld (.int .i64) (Addr.add p1 1)) fun (v30 : Int) =>
  bnd (ld (.int .i64) (Addr.add p1 2)) fun (v31 : Int) =>
  bnd (f23_sched_Sched_At x0 v30 v31) fun (r32 : Int) =>
  ret r32) (
  bnd (
  cnd (v2 == (11 : Int)) (
  bnd (ld (.int .i64) (Addr.add p1 1)) fun (v34 : Int) =>
  bnd (f24_sched_Sched_Tick x0 v34) fun (r35 : (Int × Int)) =>
  ret r35.2) (
  bnd (
  cnd (v2 == (12 : Int)) (
  bnd (ld (.int .i64) (Addr.add p1 1)) fun (v37 : Int) =>
  bnd (ld (.int .i64) (Addr.add p1 2)) fun (v38 : Int) =>
  bnd (f28_sched_Sched_Listen x0 v37 v38) fun (r39 : Int) =>
  ret r39) (
  bnd (
  cnd (v2 == (13 : Int)) (
  bnd (ld (.int .i64) (Addr.add p1 1)) fun (v41 : Int) =>
  bnd (f29_sched_Sched_Event x0 v41) fun (r42 : Bool) =>
  ret ()) (
  ret ())) fun (s40 : Unit) =>
  ret (0 : Int))) fun (s36 : Int) =>
  ret s36)) fun (s33 : Int) =>
  ret s33)) fun (s29 : Int) =>
  ret s29)) fun (s25 : Int) =>
  ret s25)) fun (s22 : Int) =>
  ret s22)) fun (s19 : Int) =>
  ret s19)) fun (s16 : Int) =>
  ret s16)) fun (s13 : Int) =>
  ret s13)) fun (s10 : Int) =>
  ret s10)) fun (s8 : Int) =>
  ret s8)) fun (s6 : Int) =>
  ret s6)) fun (s3 : Int) =>
  ret s3
noncomputable def Af10_palaverlaw26_call : Ann := (.two .nil (.two .nil (.two (.two .nil (.one (.two .nil (.join [(5, (.int .i64))] [10, 11, 12, 13, 14, 15, 16, 17, 18, 19, 20, 21, 22, 23, 24, 25, 26, 27, 28, 29, 30, 31, 32, 33, 34, 35, 36, 37, 38, 39, 40, 41, 42, 43, 44, 45, 46, 47, 48, 49, 50, 51, 52, 53, 54, 55, 56, 57, 58, 59, 60, 61, 62, 63, 64, 65, 66, 67, 68, 69, 70, 71, 72, 73, 74, 75, 76, 77, 78, 79, 80, 81, 82, 83, 84, 85, 86, 87, 88, 89, 90, 91, 92, 93, 94, 95, 96] false (.two .nil (.two .nil (.join [(5, (.int .i64))] [19, 20, 21, 22, 23, 24, 25, 26, 27, 28, 29, 30, 31, 32, 33, 34, 35, 36, 37, 38, 39, 40, 41, 42, 43, 44, 45, 46, 47, 48, 49, 50, 51, 52, 53, 54, 55, 56, 57, 58, 59, 60, 61, 62, 63, 64, 65, 66, 67, 68, 69, 70, 71, 72, 73, 74, 75, 76, 77, 78, 79, 80, 81, 82, 83, 84, 85, 86, 87, 88, 89, 90, 91, 92, 93, 94, 95, 96] false (.two .nil (.two .nil (.join [(5, (.int .i64))] [23, 24, 25, 26, 27, 28, 29, 30, 31, 32, 33, 34, 35, 36, 37, 38, 39, 40, 41, 42, 43, 44, 45, 46, 47, 48, 49, 50, 51, 52, 53, 54, 55, 56, 57, 58, 59, 60, 61, 62, 63, 64, 65, 66, 67, 68, 69, 70, 71, 72, 73, 74, 75, 76, 77, 78, 79, 80, 81, 82, 83, 84, 85, 86, 87, 88, 89, 90, 91, 92, 93, 94, 95, 96] false (.two .nil (.two .nil (.join [(5, (.int .i64))] [30, 31, 32, 33, 34, 35, 36, 37, 38, 39, 40, 41, 42, 43, 44, 45, 46, 47, 48, 49, 50, 51, 52, 53, 54, 55, 56, 57, 58, 59, 60, 61, 62, 63, 64, 65, 66, 67, 68, 69, 70, 71, 72, 73, 74, 75, 76, 77, 78, 79, 80, 81, 82, 83, 84, 85, 86, 87, 88, 89, 90, 91, 92, 93, 94, 95, 96] false (.two .nil (.two .nil (.join [(5, (.int .i64))] [36, 37, 38, 39, 40, 41, 42, 43, 44, 45, 46, 47, 48, 49, 50, 51, 52, 53, 54, 55, 56, 57, 58, 59, 60, 61, 62, 63, 64, 65, 66, 67, 68, 69, 70, 71, 72, 73, 74, 75, 76, 77, 78, 79, 80, 81, 82, 83, 84, 85, 86, 87, 88, 89, 90, 91, 92, 93, 94, 95, 96] false (.two .nil (.two .nil (.join [(5, (.int .i64))] [42, 43, 44, 45, 46, 47, 48, 49, 50, 51, 52, 53, 54, 55, 56, 57, 58, 59, 60, 61, 62, 63, 64, 65, 66, 67, 68, 69, 70, 71, 72, 73, 74, 75, 76, 77, 78, 79, 80, 81, 82, 83, 84, 85, 86, 87, 88, 89, 90, 91, 92, 93, 94, 95, 96] false (.two .nil (.two .nil (.join [(5, (.int .i64))] [48, 49, 50, 51, 52, 53, 54, 55, 56, 57, 58, 59, 60, 61, 62, 63, 64, 65, 66, 67, 68, 69, 70, 71, 72, 73, 74, 75, 76, 77, 78, 79, 80, 81, 82, 83, 84, 85, 86, 87, 88, 89, 90, 91, 92, 93, 94, 95, 96] false (.two .nil (.two .nil (.join [(5, (.int .i64))] [54, 55, 56, 57, 58, 59, 60, 61, 62, 63, 64, 65, 66, 67, 68, 69, 70, 71, 72, 73, 74, 75, 76, 77, 78, 79, 80, 81, 82, 83, 84, 85, 86, 87, 88, 89, 90, 91, 92, 93, 94, 95, 96] false (.two .nil (.two .nil (.join [(5, (.int .i64))] [60, 61, 62, 63, 64, 65, 66, 67, 68, 69, 70, 71, 72, 73, 74, 75, 76, 77, 78, 79, 80, 81, 82, 83, 84, 85, 86, 87, 88, 89, 90, 91, 92, 93, 94, 95, 96] false (.two .nil (.two .nil (.join [(5, (.int .i64))] [68, 69, 70, 71, 72, 73, 74, 75, 76, 77, 78, 79, 80, 81, 82, 83, 84, 85, 86, 87, 88, 89, 90, 91, 92, 93, 94, 95, 96] false (.two .nil (.two .nil (.join [(5, (.int .i64))] [76, 77, 78, 79, 80, 81, 82, 83, 84, 85, 86, 87, 88, 89, 90, 91, 92, 93, 94, 95, 96] false (.two .nil (.two .nil (.join [(5, (.int .i64))] [85, 86, 87, 88, 89, 90, 91, 92, 93, 94, 95, 96] false (.two .nil (.two .nil (.join [] [93, 94, 95, 96] false (.two .nil .nil))))))))))))))))))))))))))))))))))))))))) (.two .nil .nil))))
theorem Cf10_palaverlaw26_call_ok : Cf10_palaverlaw26_call.Ok := mkC_ok mixed tysOk zerosOk eqsOk ⟨Sf15_sched_Sched_Yield, Sf18_sched_Sched_Fork, Sf19_sched_Sched_Semaphore, Sf20_sched_Sched_Wait, Sf21_sched_Sched_Signal, Sf22_sched_Sched_Terminate, Sf23_sched_Sched_At, Sf24_sched_Sched_Tick, Sf25_sched_Sched_Resume, Sf26_sched_Sched_Suspend, Sf27_sched_Sched_SetPriority, Sf28_sched_Sched_Listen, Sf29_sched_Sched_Event, trivial⟩ trivial
theorem Ef10_palaverlaw26_call (x : (Option Addr × (Int × (Int × Int)))) : evF Cf10_palaverlaw26_call Try.f10 98 (.pair .ptr (.agg (.pair (.int .i64) (.pair (.int .i64) (.int .i64))))) (.int .i64) Af10_palaverlaw26_call x = f10_palaverlaw26_call x.1 x.2 := by kernel_rfl
theorem Sf10_palaverlaw26_call : SoundF Try.prog 10 ⟨(.pair .ptr (.agg (.pair (.int .i64) (.pair (.int .i64) (.int .i64))))), (.int .i64), fun x => f10_palaverlaw26_call x.1 x.2⟩ :=
  soundF_of Cf10_palaverlaw26_call_ok Try.func10 (by kernel_rfl) (by kernel_rfl) Ef10_palaverlaw26_call
noncomputable def Cf12_sched_Sched_Standing : Ctx := mkC Try.prog tys zeros eqs [(30, ⟨(.pair .ptr (.int .i64)), .ptr, fun x => f30_sched_Sched_of x.1 x.2⟩)] []
/-- (*palaversched.Sched).Standing -/
noncomputable def f12_sched_Sched_Standing (x0 : Option Addr) (x1 : Int) : M (Int × (Int × Int)) :=
  bnd (
  cnd (decide (x1 < (1 : Int))) (
  ret true) (
  bnd (drf x0) fun (p1 : Addr) =>
  bnd (ld .sl (Addr.add p1 2)) fun (v2 : Sl) =>
  ret (decide (x1 > (v2.len : Int))))) fun (b3 : Bool) =>
  cnd b3 (
  ret ((0 : Int), (0 : Int), (260 : Int))) (
  bnd (f30_sched_Sched_of x0 x1) fun (r4 : Option Addr) =>
  bnd drawM fun _ =>
  bnd (drf r4) fun (p5 : Addr) =>
  bnd (ld (.int .u8) (Addr.add p5 1)) fun (v6 : Int) =>
  bnd (drf r4) fun (p7 : Addr) =>
  bnd (ld (.int .i64) (Addr.add p7 0)) fun (v8 : Int) =>
  ret (v6, v8, (0 : Int)))
noncomputable def Af12_sched_Sched_Standing : Ann := (.two .nil (.two (.two .nil (.two (.two .nil .nil) .nil)) (.two .nil (.two .nil .nil))))
theorem Cf12_sched_Sched_Standing_ok : Cf12_sched_Sched_Standing.Ok := mkC_ok mixed tysOk zerosOk eqsOk ⟨Sf30_sched_Sched_of, trivial⟩ trivial
theorem Ef12_sched_Sched_Standing (x : (Option Addr × Int)) : evF Cf12_sched_Sched_Standing Try.f12 30 (.pair .ptr (.int .i64)) (.tup (.pair (.int .u8) (.pair (.int .i64) (.int .i64)))) Af12_sched_Sched_Standing x = f12_sched_Sched_Standing x.1 x.2 := by kernel_rfl
theorem Sf12_sched_Sched_Standing : SoundF Try.prog 12 ⟨(.pair .ptr (.int .i64)), (.tup (.pair (.int .u8) (.pair (.int .i64) (.int .i64)))), fun x => f12_sched_Sched_Standing x.1 x.2⟩ :=
  soundF_of Cf12_sched_Sched_Standing_ok Try.func12 (by kernel_rfl) (by kernel_rfl) Ef12_sched_Sched_Standing
noncomputable def Cf3_palaverlaw26_SchedFirst : Ctx := mkC Try.prog tys zeros eqs [(7, ⟨.unit, .bool, fun _ => f7_palaverlaw26_works⟩), (8, ⟨.unit, .ptr, fun _ => f8_sched_New⟩), (9, ⟨.ptr, (.int .i64), fun x => f9_sched_Sched_Active x⟩), (10, ⟨(.pair .ptr (.agg (.pair (.int .i64) (.pair (.int .i64) (.int .i64))))), (.int .i64), fun x => f10_palaverlaw26_call x.1 x.2⟩), (11, ⟨.ptr, .sl, fun x => f11_sched_Sched_Ready x⟩), (12, ⟨(.pair .ptr (.int .i64)), (.tup (.pair (.int .u8) (.pair (.int .i64) (.int .i64)))), fun x => f12_sched_Sched_Standing x.1 x.2⟩)] []
/-- palaverpalaverlaw26.SchedFirst -/
noncomputable def f3_palaverlaw26_SchedFirst (x0 : Sl) : M Bool :=
  bnd f7_palaverlaw26_works fun (r1 : Bool) =>
  bnd f8_sched_New fun (r2 : Option Addr) =>
  cnd (Option.isNone r2) (
  ret false) (
  loopM (fun (s3 : Int) =>
  cnd (decide (s3 < (x0.len : Int))) (
  bnd (
  bnd (f9_sched_Sched_Active r2) fun (r5 : Int) =>
  bnd (ix 3 x0 s3) fun (p6 : Addr) =>
  bnd (ld (.agg (.pair (.int .i64) (.pair (.int .i64) (.int .i64)))) p6) fun (v7 : (Int × (Int × Int))) =>
  bnd (f10_palaverlaw26_call r2 v7) fun (r8 : Int) =>
  bnd (f9_sched_Sched_Active r2) fun (r9 : Int) =>
  bnd (f11_sched_Sched_Ready r2) fun (r10 : Sl) =>
  cnd (r9 == (0 : Int)) (
  cnd (decide ((r10.len : Int) > (0 : Int))) (
  ret (Sum.inr (Sum.inr false))) (
  ret (Sum.inl ()))) (
  bnd (f12_sched_Sched_Standing r2 r9) fun (r12 : (Int × (Int × Int))) =>
  cnd (cond (r12.1 != (2 : Int)) true (r12.2.2 != (0 : Int))) (
  ret (Sum.inr (Sum.inr false))) (
  loopM (fun (s14 : (Int × Int)) =>
  cnd (decide (s14.2 < (r10.len : Int))) (
  bnd (ix 1 r10 s14.2) fun (p15 : Addr) =>
  bnd (ld (.int .i64) p15) fun (v16 : Int) =>
  bnd (f12_sched_Sched_Standing r2 v16) fun (r17 : (Int × (Int × Int))) =>
  cnd (cond (cond (cond (r17.1 != (1 : Int)) true (r17.2.2 != (0 : Int))) true (decide (r17.2.1 > r12.2.1))) true (decide (r17.2.1 > s14.1))) (
  ret (Sum.inr (Sum.inr (Sum.inr false)))) (
  ret (Sum.inl (r17.2.1, (IntKind.wrap .i64 (s14.2 + (1 : Int))))))) (
  bnd (
  cnd (cond (r5 == (0 : Int)) true (r5 == r9)) (
  ret (Sum.inl ())) (
  bnd (f12_sched_Sched_Standing r2 r5) fun (r19 : (Int × (Int × Int))) =>
  bnd (ix 3 x0 s3) fun (p20 : Addr) =>
  bnd (ld (.int .i64) (Addr.add p20 0)) fun (v21 : Int) =>
  cnd (cond (cond (cond (cond (r19.1 == (1 : Int)) (decide (r12.2.1 ≤ r19.2.1)) false) (v21 != (2 : Int)) false) (v21 != (9 : Int)) false) (!(cond (r12.2.1 == r19.2.1) (v21 == (7 : Int)) false)) false) (
  ret (Sum.inr (Sum.inr false))) (
  bnd (
  cnd (cond (cond (cond (r19.1 == (1 : Int)) (decide (r12.2.1 > r19.2.1)) false) (v21 != (2 : Int)) false) (v21 != (9 : Int)) false) (
  bnd (
  loopM (fun (s25 : Int) =>
  cnd (decide (s25 < (r10.len : Int))) (
  bnd (ix 1 r10 s25) fun (p26 : Addr) =>
  bnd (ld (.int .i64) p26) fun (v27 : Int) =>
  bnd (f12_sched_Sched_Standing r2 v27) fun (r28 : (Int × (Int × Int))) =>
  cnd (r28.2.1 == r19.2.1) (
  bnd (ix 1 r10 s25) fun (p29 : Addr) =>
  bnd (ld (.int .i64) p29) fun (v30 : Int) =>
  cnd (v30 != r5) (
  ret (Sum.inr (Sum.inr (Sum.inr (Sum.inr (Sum.inr false)))))) (
  ret (Sum.inr (Sum.inl ())))) (
  ret (Sum.inl (IntKind.wrap .i64 (s25 + (1 : Int)))))) (
  ret (Sum.inr (Sum.inl ())))) (0 : Int)) (fun
  | .inl (s24 : Unit) =>
  ret (Sum.inl ())
  | .inr r35 => ret r35)) (
  ret (Sum.inl ()))) (fun
  | .inl (s23 : Unit) =>
  ret (Sum.inl ())
  | .inr r37 => ret r37)))) fun r38 =>
  ret (Sum.inr r38))) ((17 : Int), (0 : Int))))) (fun
  | .inl (s4 : Unit) =>
  ret (Sum.inl (IntKind.wrap .i64 (s3 + (1 : Int))))
  | .inr r40 => ret r40)) (
  ret (Sum.inr r1))) (0 : Int))
noncomputable def Af3_palaverlaw26_SchedFirst : Ann := (.two .nil (.two .nil (.two .nil (.two (.two .nil (.two (.two .nil .nil) .nil)) (.two (.two .nil (.one (.loop [(5, (.int .i64))] [2, 6, 7, 8, 9, 10, 11, 12, 13, 14, 15, 16, 17, 18, 19, 20, 21, 22, 23, 24, 29, 30, 31, 32, 33, 34, 35, 36, 37, 38, 39, 40, 41, 42, 43, 44, 45, 46, 47, 48, 49, 50, 51, 52, 53, 54, 55, 56, 57, 58, 59, 60, 61, 62, 63, 64, 65, 66, 67, 68, 69, 70, 71, 72, 73, 74, 75, 76, 77, 78, 79, 80, 81, 82, 83, 84, 85, 86, 87, 88, 89, 90, 91, 92, 93, 94, 95, 96, 97, 98, 99, 100, 101, 102, 103, 104, 105, 106, 107, 108, 109, 110, 111, 112, 113, 114, 115, 116, 117, 118, 119, 120, 121, 122, 123, 124, 125, 126, 127, 128, 129, 130, 131, 132, 133, 134, 135, 136, 137, 138, 139, 140, 141, 142, 143, 144, 145, 146, 147, 148, 149, 150, 151, 152, 153, 154, 155, 156, 157, 158, 159, 160, 161, 162, 163, 164, 165, 166, 167, 168, 169, 170, 171, 172, 173, 174, 175, 176, 177, 178, 179, 180, 181] (.two (.two .nil (.two .nil .nil)) (.two (.join [] [2, 6, 7, 8, 9, 10, 11, 12, 13, 14, 15, 16, 17, 18, 19, 20, 21, 22, 23, 24, 35, 36, 37, 38, 39, 40, 41, 42, 43, 44, 45, 46, 47, 48, 49, 50, 51, 52, 53, 54, 55, 56, 57, 58, 59, 60, 61, 62, 63, 64, 65, 66, 67, 68, 69, 70, 71, 72, 73, 74, 75, 76, 77, 78, 79, 80, 81, 82, 83, 84, 85, 86, 87, 88, 89, 90, 91, 92, 93, 94, 95, 96, 97, 98, 99, 100, 101, 102, 103, 104, 105, 106, 107, 108, 109, 110, 111, 112, 113, 114, 115, 116, 117, 118, 119, 120, 121, 122, 123, 124, 125, 126, 127, 128, 129, 130, 131, 132, 133, 134, 135, 136, 137, 138, 139, 140, 141, 142, 143, 144, 145, 146, 147, 148, 149, 150, 151, 152, 153, 154, 155, 156, 157, 158, 159, 160, 161, 162, 163, 164, 165, 166, 167, 168, 169, 170, 171, 172, 173, 174, 175, 176, 177, 178, 179, 180, 181] true (.one (.two .nil (.two .nil (.two .nil (.two .nil (.two (.two .nil (.two (.two (.two .nil (.two (.two .nil .nil) .nil)) .nil) .nil)) (.two .nil (.two (.two .nil (.two (.two .nil .nil) .nil)) (.two .nil (.two (.two .nil (.one (.loop [(12, (.int .i64)), (13, (.int .i64))] [2, 14, 15, 16, 65, 66, 67, 68, 69, 70, 71, 72, 73, 74, 75, 76, 77, 78, 79, 80, 81, 82, 83, 84, 85, 86, 87, 88, 89, 90, 91, 92, 93, 94, 95, 96, 97] (.two (.two .nil (.two .nil .nil)) (.two (.one (.two .nil (.two (.two .nil (.two (.two .nil .nil) .nil)) .nil))) .nil))))) (.two (.two .nil (.two .nil .nil)) (.two .nil (.two .nil (.two (.two .nil (.two (.two .nil .nil) .nil)) (.two .nil (.join [] [2, 21, 22, 23, 24, 157, 158, 159, 160, 161, 162, 163, 164, 165, 166, 167, 168, 169, 170, 171, 172, 173, 174, 175, 176, 177, 178, 179, 180, 181] true (.two (.two .nil (.join [] [2, 21, 22, 23, 24, 157, 158, 159, 160, 161, 162, 163, 164, 165, 166, 167, 168, 169, 170, 171, 172, 173, 174, 175, 176, 177, 178, 179, 180, 181] true (.one (.loop [(21, (.int .i64))] [2, 22, 23, 24, 157, 158, 159, 160, 161, 162, 163, 164, 165, 166, 167, 168, 169, 170, 171, 172, 173, 174, 175, 176, 177, 178, 179, 180, 181] (.two (.two .nil (.two .nil .nil)) (.two (.one (.two .nil (.two .nil (.two (.two (.two .nil (.two (.two .nil .nil) .nil)) .nil) .nil)))) .nil)))))) .nil)))))))))))))))))) .nil))))) (.two .nil .nil))))))
theorem Cf3_palaverlaw26_SchedFirst_ok : Cf3_palaverlaw26_SchedFirst.Ok := mkC_ok mixed tysOk zerosOk eqsOk ⟨Sf7_palaverlaw26_works, Sf8_sched_New, Sf9_sched_Sched_Active, Sf10_palaverlaw26_call, Sf11_sched_Sched_Ready, Sf12_sched_Sched_Standing, trivial⟩ trivial
theorem Ef3_palaverlaw26_SchedFirst (x : Sl) : evF Cf3_palaverlaw26_SchedFirst Try.f3 183 .sl .bool Af3_palaverlaw26_SchedFirst x = f3_palaverlaw26_SchedFirst x := by kernel_rfl
theorem Sf3_palaverlaw26_SchedFirst : SoundF Try.prog 3 ⟨.sl, .bool, fun x => f3_palaverlaw26_SchedFirst x⟩ :=
  soundF_of Cf3_palaverlaw26_SchedFirst_ok Try.func3 (by kernel_rfl) (by kernel_rfl) Ef3_palaverlaw26_SchedFirst
noncomputable def Cf4_palaverlaw26_SchedSignals : Ctx := mkC Try.prog tys zeros eqs [(7, ⟨.unit, .bool, fun _ => f7_palaverlaw26_works⟩), (8, ⟨.unit, .ptr, fun _ => f8_sched_New⟩), (10, ⟨(.pair .ptr (.agg (.pair (.int .i64) (.pair (.int .i64) (.int .i64))))), (.int .i64), fun x => f10_palaverlaw26_call x.1 x.2⟩), (12, ⟨(.pair .ptr (.int .i64)), (.tup (.pair (.int .u8) (.pair (.int .i64) (.int .i64)))), fun x => f12_sched_Sched_Standing x.1 x.2⟩), (13, ⟨(.pair .ptr (.int .i64)), (.tup (.pair .sl (.pair (.int .i64) (.int .i64)))), fun x => f13_sched_Sched_Waiting x.1 x.2⟩), (14, ⟨(.pair .sl .sl), .bool, fun x => f14_palaverref00_SameInts x.1 x.2⟩)] []
/-- palaverpalaverlaw26.SchedSignals -/
noncomputable def f4_palaverlaw26_SchedSignals (x0 : Sl) : M Bool :=
  bnd f7_palaverlaw26_works fun (r1 : Bool) =>
  bnd f8_sched_New fun (r2 : Option Addr) =>
  cnd (Option.isNone r2) (
  ret false) (
  loopM (fun (s3 : Int) =>
  cnd (decide (s3 < (x0.len : Int))) (
  bnd (
  bnd (ix 3 x0 s3) fun (p5 : Addr) =>
  bnd (ld (.agg (.pair (.int .i64) (.pair (.int .i64) (.int .i64)))) p5) fun (v6 : (Int × (Int × Int))) =>
  bnd (newC 30 [.int .i64 (0 : Int), .int .i64 (0 : Int), .int .i64 (0 : Int)]) fun (p7 : Addr) =>
  bnd (wrs p7 0 [.int .i64 v6.1, .int .i64 v6.2.1, .int .i64 v6.2.2]) fun _ =>
  bnd (ld (.int .i64) (Addr.add p7 1)) fun (v8 : Int) =>
  bnd (f13_sched_Sched_Waiting r2 v8) fun (r9 : (Sl × (Int × Int))) =>
  bnd (ld (.agg (.pair (.int .i64) (.pair (.int .i64) (.int .i64)))) p7) fun (v10 : (Int × (Int × Int))) =>
  bnd (f10_palaverlaw26_call r2 v10) fun (r11 : Int) =>
  bnd (ld (.int .i64) (Addr.add p7 1)) fun (v12 : Int) =>
  bnd (f13_sched_Sched_Waiting r2 v12) fun (r13 : (Sl × (Int × Int))) =>
  bnd (ld (.int .i64) (Addr.add p7 0)) fun (v14 : Int) =>
  cnd (v14 != (5 : Int)) (
  ret (Sum.inl ())) (
  cnd (r9.2.2 != (0 : Int)) (
  cnd (cond (r11 != (261 : Int)) true (r13.2.2 != r9.2.2)) (
  ret (Sum.inr (Sum.inr false))) (
  ret (Sum.inl ()))) (
  cnd ((r9.1.len : Int) == (0 : Int)) (
  cnd (cond (cond (cond (r11 == (0 : Int)) (r13.2.1 != (IntKind.wrap .i64 (r9.2.1 + (1 : Int)))) false) true (cond (r11 != (0 : Int)) (cond (r11 != (264 : Int)) true (r13.2.1 != r9.2.1)) false)) true ((r13.1.len : Int) != (0 : Int))) (
  ret (Sum.inr (Sum.inr false))) (
  ret (Sum.inl ()))) (
  bnd (slc 1 r9.1 (some (1 : Int)) none none) fun (v17 : Sl) =>
  bnd (f14_palaverref00_SameInts r13.1 v17) fun (r18 : Bool) =>
  bnd (ix 1 r9.1 (0 : Int)) fun (p19 : Addr) =>
  bnd (ld (.int .i64) p19) fun (v20 : Int) =>
  bnd (f12_sched_Sched_Standing r2 v20) fun (r21 : (Int × (Int × Int))) =>
  cnd (cond (cond (cond (cond (r11 != (0 : Int)) true (r9.2.1 != (0 : Int))) true (r13.2.1 != (0 : Int))) true (!r18)) true (cond (r21.1 != (1 : Int)) (r21.1 != (2 : Int)) false)) (
  ret (Sum.inr (Sum.inr false))) (
  ret (Sum.inl ())))))) (fun
  | .inl (s4 : Unit) =>
  ret (Sum.inl (IntKind.wrap .i64 (s3 + (1 : Int))))
  | .inr r24 => ret r24)) (
  ret (Sum.inr r1))) (0 : Int))
noncomputable def Af4_palaverlaw26_SchedSignals : Ann := (.two .nil (.two .nil (.two .nil (.two (.two .nil (.two (.two .nil .nil) .nil)) (.two (.two .nil (.one (.loop [(5, (.int .i64))] [2, 6, 7, 8, 9, 10, 11, 12, 13, 14, 15, 16, 17, 22, 23, 24, 25, 26, 27, 28, 29, 30, 31, 32, 33, 34, 35, 36, 37, 38, 39, 40, 41, 42, 43, 44, 45, 46, 47, 48, 49, 50, 51, 52, 53, 54, 55, 56, 57, 58, 59, 60, 61, 62, 63, 64, 65, 66, 67, 68, 69, 70, 71, 72, 73, 74, 75, 76, 77, 78, 79, 80, 81, 82, 83, 84, 85, 86, 87, 88, 89, 90, 91, 92, 93, 94, 95, 96, 97, 98, 99, 100, 101, 102, 103, 104, 105, 106, 107, 108, 109, 110, 111, 112, 113, 114, 115, 116, 117, 118, 119, 120, 121, 122, 123, 124, 125, 126] (.two (.two .nil (.two .nil .nil)) (.two (.join [] [2, 6, 7, 8, 9, 10, 11, 12, 13, 14, 15, 16, 17, 28, 29, 30, 31, 32, 33, 34, 35, 36, 37, 38, 39, 40, 41, 42, 43, 44, 45, 46, 47, 48, 49, 50, 51, 52, 53, 54, 55, 56, 57, 58, 59, 60, 61, 62, 63, 64, 65, 66, 67, 68, 69, 70, 71, 72, 73, 74, 75, 76, 77, 78, 79, 80, 81, 82, 83, 84, 85, 86, 87, 88, 89, 90, 91, 92, 93, 94, 95, 96, 97, 98, 99, 100, 101, 102, 103, 104, 105, 106, 107, 108, 109, 110, 111, 112, 113, 114, 115, 116, 117, 118, 119, 120, 121, 122, 123, 124, 125, 126] true (.one (.two .nil (.two .nil (.two .nil (.two .nil (.two (.two .nil (.two .nil .nil)) (.two (.two .nil (.two (.two (.two .nil (.two (.two .nil .nil) .nil)) .nil) .nil)) (.two (.two .nil (.two (.two (.two .nil (.two (.two .nil .nil) .nil)) .nil) .nil)) (.two .nil (.two .nil (.two .nil (.two (.two .nil .nil) .nil))))))))))))) .nil))))) (.two .nil .nil))))))
theorem Cf4_palaverlaw26_SchedSignals_ok : Cf4_palaverlaw26_SchedSignals.Ok := mkC_ok mixed tysOk zerosOk eqsOk ⟨Sf7_palaverlaw26_works, Sf8_sched_New, Sf10_palaverlaw26_call, Sf12_sched_Sched_Standing, Sf13_sched_Sched_Waiting, Sf14_palaverref00_SameInts, trivial⟩ trivial
theorem Ef4_palaverlaw26_SchedSignals (x : Sl) : evF Cf4_palaverlaw26_SchedSignals Try.f4 128 .sl .bool Af4_palaverlaw26_SchedSignals x = f4_palaverlaw26_SchedSignals x := by kernel_rfl
theorem Sf4_palaverlaw26_SchedSignals : SoundF Try.prog 4 ⟨.sl, .bool, fun x => f4_palaverlaw26_SchedSignals x⟩ :=
  soundF_of Cf4_palaverlaw26_SchedSignals_ok Try.func4 (by kernel_rfl) (by kernel_rfl) Ef4_palaverlaw26_SchedSignals
noncomputable def Cf5_palaverlaw26_SchedFair : Ctx := mkC Try.prog tys zeros eqs [(7, ⟨.unit, .bool, fun _ => f7_palaverlaw26_works⟩), (8, ⟨.unit, .ptr, fun _ => f8_sched_New⟩), (9, ⟨.ptr, (.int .i64), fun x => f9_sched_Sched_Active x⟩), (10, ⟨(.pair .ptr (.agg (.pair (.int .i64) (.pair (.int .i64) (.int .i64))))), (.int .i64), fun x => f10_palaverlaw26_call x.1 x.2⟩), (11, ⟨.ptr, .sl, fun x => f11_sched_Sched_Ready x⟩), (12, ⟨(.pair .ptr (.int .i64)), (.tup (.pair (.int .u8) (.pair (.int .i64) (.int .i64)))), fun x => f12_sched_Sched_Standing x.1 x.2⟩), (15, ⟨.ptr, (.int .i64), fun x => f15_sched_Sched_Yield x⟩)] []
/-- palaverpalaverlaw26.SchedFair -/
noncomputable def f5_palaverlaw26_SchedFair (x0 : Sl) : M Bool :=
  bnd f7_palaverlaw26_works fun (r1 : Bool) =>
  bnd f8_sched_New fun (r2 : Option Addr) =>
  cnd (Option.isNone r2) (
  ret false) (
  loopM (fun (s3 : Int) =>
  cnd (decide (s3 < (x0.len : Int))) (
  bnd (ix 3 x0 s3) fun (p4 : Addr) =>
  bnd (ld (.agg (.pair (.int .i64) (.pair (.int .i64) (.int .i64)))) p4) fun (v5 : (Int × (Int × Int))) =>
  bnd (f10_palaverlaw26_call r2 v5) fun (r6 : Int) =>
  ret (Sum.inl (IntKind.wrap .i64 (s3 + (1 : Int))))) (
  bnd (
  bnd (f9_sched_Sched_Active r2) fun (r7 : Int) =>
  cnd (r7 == (0 : Int)) (
  ret r1) (
  bnd (f12_sched_Sched_Standing r2 r7) fun (r8 : (Int × (Int × Int))) =>
  bnd (f11_sched_Sched_Ready r2) fun (r9 : Sl) =>
  loopM (fun (s10 : (Sl × Int)) =>
  cnd (decide (s10.2 < (r9.len : Int))) (
  bnd (ix 1 r9 s10.2) fun (p11 : Addr) =>
  bnd (ld (.int .i64) p11) fun (v12 : Int) =>
  bnd (f12_sched_Sched_Standing r2 v12) fun (r13 : (Int × (Int × Int))) =>
  bnd (
  cnd (r13.2.1 == r8.2.1) (
  bnd (ix 1 r9 s10.2) fun (p15 : Addr) =>
  bnd (ld (.int .i64) p15) fun (v16 : Int) =>
  bnd (runV Try.prog .sl (Instr.buildSlice 31 1 #[(0, .int .i64 v16)])) fun (v17 : Sl) =>
  bnd (runV Try.prog .sl (Builtin.append_ #[31, 31] 31 #[.slice s10.1.a s10.1.len s10.1.cap, .slice v17.a v17.len v17.cap])) fun (v18 : Sl) =>
  ret v18) (
  ret s10.1)) fun (s14 : Sl) =>
  ret (Sum.inl (s14, (IntKind.wrap .i64 (s10.2 + (1 : Int)))))) (
  bnd (
  loopM (fun (s19 : Int) =>
  cnd (decide (s19 < (s10.1.len : Int))) (
  bnd (f15_sched_Sched_Yield r2) fun (r20 : Int) =>
  bnd (
  bnd (ordM 5 25 (regionIn 25 Try.f5)) fun (o22 : List Nat) =>
  cnd (r20 != (0 : Int)) (
  bnd (ret ()) fun _ =>
  ret true) (
  bnd (ix 1 s10.1 s19) fun (p23 : Addr) =>
  bnd (ld (.int .i64) p23) fun (v24 : Int) =>
  bnd (f9_sched_Sched_Active r2) fun (r25 : Int) =>
  bnd (
  bnd (chk (.int .i64) p23 v24) fun _ =>
  ret ()) fun _ =>
  ret (r25 != v24))) fun (s21 : Bool) =>
  cnd s21 (
  ret (Sum.inr false)) (
  ret (Sum.inl (IntKind.wrap .i64 (s19 + (1 : Int)))))) (
  bnd (
  bnd (f15_sched_Sched_Yield r2) fun (r26 : Int) =>
  bnd (
  cnd (cond r1 (r26 == (0 : Int)) false) (
  bnd (f9_sched_Sched_Active r2) fun (r27 : Int) =>
  ret (r27 == r7)) (
  ret false)) fun (b28 : Bool) =>
  ret b28) fun r29 =>
  ret (Sum.inr r29))) (0 : Int)) fun r30 =>
  ret (Sum.inr r30))) ((Sl.mk none 0 0), (0 : Int)))) fun r31 =>
  ret (Sum.inr r31))) (0 : Int))
noncomputable def Af5_palaverlaw26_SchedFair : Ann := (.two .nil (.two .nil (.two .nil (.two (.two .nil (.two (.two .nil .nil) .nil)) (.two (.two .nil (.one (.loop [(5, (.int .i64))] [23, 24, 25, 26, 27, 28, 29, 30, 31, 32, 33, 34] (.two (.two .nil (.two .nil .nil)) (.two (.one .nil) .nil))))) (.two .nil (.two (.two .nil (.two (.two .nil .nil) .nil)) (.two .nil (.two .nil (.two .nil (.two (.two .nil (.one (.loop [(10, .sl), (12, (.int .i64))] [13, 14, 15, 49, 50, 51, 52, 53, 54, 55, 56, 57, 58, 59, 60, 61, 62, 63, 64, 65, 66, 67, 68, 69, 70, 71, 72, 73, 74] (.two (.two .nil (.two .nil .nil)) (.two (.one (.two .nil (.two .nil (.join [(10, .sl)] [68, 69, 70, 71, 72, 73, 74] false (.two .nil .nil))))) .nil))))) (.two (.two .nil (.one (.loop [(16, (.int .i64))] [2, 17, 75, 76, 77, 78, 79, 80, 81, 82, 83, 84, 85, 86, 87, 88, 89, 90, 91, 92, 93] (.two (.two .nil (.two .nil .nil)) (.two (.one (.two .nil (.two (.join [(93, .bool)] [83, 84, 85, 86, 87, 88, 89, 90, 91, 92] false (.ord 5 [(0, 2046), (1, 2044), (2, 2041), (4, 2035), (12, 2019), (4, 2011), (4, 1979), (100, 1819), (132, 1659), (276, 1259), (516, 507)] (.o 0 (.o 1 (.o 2 (.s 85 (.o 3 (.o 5 (.o 6 (.o 7 (.o 8 (.o 4 (.o 9 (.o 10 .done)))))))) (.o 3 (.o 5 (.o 6 (.o 7 (.o 8 (.o 4 (.o 9 (.o 10 .done)))))))))))))) (.two (.two .nil .nil) .nil)))) .nil))))) (.two .nil (.two .nil .nil))))))))))))))
theorem Cf5_palaverlaw26_SchedFair_ok : Cf5_palaverlaw26_SchedFair.Ok := mkC_ok mixed tysOk zerosOk eqsOk ⟨Sf7_palaverlaw26_works, Sf8_sched_New, Sf9_sched_Sched_Active, Sf10_palaverlaw26_call, Sf11_sched_Sched_Ready, Sf12_sched_Sched_Standing, Sf15_sched_Sched_Yield, trivial⟩ trivial
theorem Ef5_palaverlaw26_SchedFair (x : Sl) : evF Cf5_palaverlaw26_SchedFair Try.f5 107 .sl .bool Af5_palaverlaw26_SchedFair x = f5_palaverlaw26_SchedFair x := by kernel_rfl
theorem Sf5_palaverlaw26_SchedFair : SoundF Try.prog 5 ⟨.sl, .bool, fun x => f5_palaverlaw26_SchedFair x⟩ :=
  soundF_of Cf5_palaverlaw26_SchedFair_ok Try.func5 (by kernel_rfl) (by kernel_rfl) Ef5_palaverlaw26_SchedFair
end Go.Proofs.Ytkkdeljladihpaa
