/-
  Part of the proof: Z01. It states what the functions do; no further condition.
-/
import Derived.Test.YtkkdeljladihpaaGreatProg
import Derived.Test.YtkkdeljladihpaaGreatShI
import Derived.KernelRfl
set_option linter.unusedVariables false
set_option linter.unusedSimpArgs false
namespace Go.Proofs.YtkkdeljladihpaaGreat
open Go.Sh
set_option maxRecDepth 100000
noncomputable def tys : List (Nat × Ty) := [(3, (.int .i64)),
  (4, .bool),
  (20, (.ifc 79 (.agg (.pair (.int .i64) (.pair (.int .i64) (.int .i64)))))),
  (24, .ptr),
  (28, .sl),
  (51, (.int .i64)),
  (61, .sl),
  (62, .sl),
  (65, .sl),
  (67, (.agg (.pair (.int .i64) (.pair (.int .i64) (.pair .sl (.pair .sl (.pair (.agg (.pair .sl (.pair .sl (.pair .sl (.pair .sl (.pair .sl (.pair .sl (.pair .sl (.pair .sl (.pair .sl (.pair .sl (.pair .sl (.pair .sl (.pair .sl (.pair .sl (.pair .sl (.pair .sl .sl))))))))))))))))) (.pair .sl (.pair (.int .i64) (.agg (.pair (.int .i64) (.pair (.int .i64) (.pair (.int .i64) (.pair (.int .i64) (.pair (.int .i64) (.pair (.int .i64) (.pair (.int .i64) (.pair (.int .i64) (.pair (.int .i64) (.pair (.int .i64) (.pair (.int .i64) (.pair (.int .i64) (.pair (.int .i64) (.pair (.int .i64) (.pair (.int .i64) (.pair (.int .i64) (.pair (.int .i64) (.pair (.int .i64) (.pair (.int .i64) (.pair (.int .i64) (.pair (.int .i64) (.pair (.int .i64) (.pair (.int .i64) (.pair (.int .i64) (.pair (.int .i64) (.pair (.int .i64) (.pair (.int .i64) (.pair (.int .i64) (.pair (.int .i64) (.pair (.int .i64) (.pair (.int .i64) (.pair (.int .i64) (.pair (.int .i64) (.pair (.int .i64) (.pair (.int .i64) (.pair (.int .i64) (.pair (.int .i64) (.pair (.int .i64) (.pair (.int .i64) (.pair (.int .i64) (.pair (.int .i64) (.pair (.int .i64) (.pair (.int .i64) (.pair (.int .i64) (.pair (.int .i64) (.pair (.int .i64) (.pair (.int .i64) (.pair (.int .i64) (.pair (.int .i64) (.pair (.int .i64) (.pair (.int .i64) (.pair (.int .i64) (.pair (.int .i64) (.pair (.int .i64) (.pair (.int .i64) (.pair (.int .i64) (.pair (.int .i64) (.pair (.int .i64) (.pair (.int .i64) (.pair (.int .i64) (.pair (.int .i64) (.pair (.int .i64) (.pair (.int .i64) (.int .i64)))))))))))))))))))))))))))))))))))))))))))))))))))))))))))))))))))))))))),
  (68, (.clo 88 .adr)),
  (70, (.int .u8)),
  (74, (.agg (.pair (.int .i64) (.pair (.int .u8) (.int .i64))))),
  (76, (.agg (.pair (.int .i64) .sl))),
  (79, (.agg (.pair (.int .i64) (.pair (.int .i64) (.int .i64))))),
  (87, .ptr),
  (99, .ptr),
  (103, .ptr),
  (136, (.ifc 103 .ptr))]
theorem tysOk : AllN (fun T t => tyFitsB Tryz.prog T t = true) tys :=
  ⟨(by kernel_rfl : tyFitsB Tryz.prog 3 (.int .i64) = true),
   (by kernel_rfl : tyFitsB Tryz.prog 4 .bool = true),
   (by kernel_rfl : tyFitsB Tryz.prog 20 (.ifc 79 (.agg (.pair (.int .i64) (.pair (.int .i64) (.int .i64))))) = true),
   (by kernel_rfl : tyFitsB Tryz.prog 24 .ptr = true),
   (by kernel_rfl : tyFitsB Tryz.prog 28 .sl = true),
   (by kernel_rfl : tyFitsB Tryz.prog 51 (.int .i64) = true),
   (by kernel_rfl : tyFitsB Tryz.prog 61 .sl = true),
   (by kernel_rfl : tyFitsB Tryz.prog 62 .sl = true),
   (by kernel_rfl : tyFitsB Tryz.prog 65 .sl = true),
   (by kernel_rfl : tyFitsB Tryz.prog 67 (.agg (.pair (.int .i64) (.pair (.int .i64) (.pair .sl (.pair .sl (.pair (.agg (.pair .sl (.pair .sl (.pair .sl (.pair .sl (.pair .sl (.pair .sl (.pair .sl (.pair .sl (.pair .sl (.pair .sl (.pair .sl (.pair .sl (.pair .sl (.pair .sl (.pair .sl (.pair .sl .sl))))))))))))))))) (.pair .sl (.pair (.int .i64) (.agg (.pair (.int .i64) (.pair (.int .i64) (.pair (.int .i64) (.pair (.int .i64) (.pair (.int .i64) (.pair (.int .i64) (.pair (.int .i64) (.pair (.int .i64) (.pair (.int .i64) (.pair (.int .i64) (.pair (.int .i64) (.pair (.int .i64) (.pair (.int .i64) (.pair (.int .i64) (.pair (.int .i64) (.pair (.int .i64) (.pair (.int .i64) (.pair (.int .i64) (.pair (.int .i64) (.pair (.int .i64) (.pair (.int .i64) (.pair (.int .i64) (.pair (.int .i64) (.pair (.int .i64) (.pair (.int .i64) (.pair (.int .i64) (.pair (.int .i64) (.pair (.int .i64) (.pair (.int .i64) (.pair (.int .i64) (.pair (.int .i64) (.pair (.int .i64) (.pair (.int .i64) (.pair (.int .i64) (.pair (.int .i64) (.pair (.int .i64) (.pair (.int .i64) (.pair (.int .i64) (.pair (.int .i64) (.pair (.int .i64) (.pair (.int .i64) (.pair (.int .i64) (.pair (.int .i64) (.pair (.int .i64) (.pair (.int .i64) (.pair (.int .i64) (.pair (.int .i64) (.pair (.int .i64) (.pair (.int .i64) (.pair (.int .i64) (.pair (.int .i64) (.pair (.int .i64) (.pair (.int .i64) (.pair (.int .i64) (.pair (.int .i64) (.pair (.int .i64) (.pair (.int .i64) (.pair (.int .i64) (.pair (.int .i64) (.pair (.int .i64) (.pair (.int .i64) (.pair (.int .i64) (.pair (.int .i64) (.int .i64))))))))))))))))))))))))))))))))))))))))))))))))))))))))))))))))))))))))) = true),
   (by kernel_rfl : tyFitsB Tryz.prog 68 (.clo 88 .adr) = true),
   (by kernel_rfl : tyFitsB Tryz.prog 70 (.int .u8) = true),
   (by kernel_rfl : tyFitsB Tryz.prog 74 (.agg (.pair (.int .i64) (.pair (.int .u8) (.int .i64)))) = true),
   (by kernel_rfl : tyFitsB Tryz.prog 76 (.agg (.pair (.int .i64) .sl)) = true),
   (by kernel_rfl : tyFitsB Tryz.prog 79 (.agg (.pair (.int .i64) (.pair (.int .i64) (.int .i64)))) = true),
   (by kernel_rfl : tyFitsB Tryz.prog 87 .ptr = true),
   (by kernel_rfl : tyFitsB Tryz.prog 99 .ptr = true),
   (by kernel_rfl : tyFitsB Tryz.prog 103 .ptr = true),
   (by kernel_rfl : tyFitsB Tryz.prog 136 (.ifc 103 .ptr) = true), trivial⟩
noncomputable def zeros : List (Nat × TV) := [(67, ⟨(.agg (.pair (.int .i64) (.pair (.int .i64) (.pair .sl (.pair .sl (.pair (.agg (.pair .sl (.pair .sl (.pair .sl (.pair .sl (.pair .sl (.pair .sl (.pair .sl (.pair .sl (.pair .sl (.pair .sl (.pair .sl (.pair .sl (.pair .sl (.pair .sl (.pair .sl (.pair .sl .sl))))))))))))))))) (.pair .sl (.pair (.int .i64) (.agg (.pair (.int .i64) (.pair (.int .i64) (.pair (.int .i64) (.pair (.int .i64) (.pair (.int .i64) (.pair (.int .i64) (.pair (.int .i64) (.pair (.int .i64) (.pair (.int .i64) (.pair (.int .i64) (.pair (.int .i64) (.pair (.int .i64) (.pair (.int .i64) (.pair (.int .i64) (.pair (.int .i64) (.pair (.int .i64) (.pair (.int .i64) (.pair (.int .i64) (.pair (.int .i64) (.pair (.int .i64) (.pair (.int .i64) (.pair (.int .i64) (.pair (.int .i64) (.pair (.int .i64) (.pair (.int .i64) (.pair (.int .i64) (.pair (.int .i64) (.pair (.int .i64) (.pair (.int .i64) (.pair (.int .i64) (.pair (.int .i64) (.pair (.int .i64) (.pair (.int .i64) (.pair (.int .i64) (.pair (.int .i64) (.pair (.int .i64) (.pair (.int .i64) (.pair (.int .i64) (.pair (.int .i64) (.pair (.int .i64) (.pair (.int .i64) (.pair (.int .i64) (.pair (.int .i64) (.pair (.int .i64) (.pair (.int .i64) (.pair (.int .i64) (.pair (.int .i64) (.pair (.int .i64) (.pair (.int .i64) (.pair (.int .i64) (.pair (.int .i64) (.pair (.int .i64) (.pair (.int .i64) (.pair (.int .i64) (.pair (.int .i64) (.pair (.int .i64) (.pair (.int .i64) (.pair (.int .i64) (.pair (.int .i64) (.pair (.int .i64) (.pair (.int .i64) (.pair (.int .i64) (.pair (.int .i64) (.int .i64))))))))))))))))))))))))))))))))))))))))))))))))))))))))))))))))))))))))), ((0 : Int), (0 : Int), (Sl.mk none 0 0), (Sl.mk none 0 0), ((Sl.mk none 0 0), (Sl.mk none 0 0), (Sl.mk none 0 0), (Sl.mk none 0 0), (Sl.mk none 0 0), (Sl.mk none 0 0), (Sl.mk none 0 0), (Sl.mk none 0 0), (Sl.mk none 0 0), (Sl.mk none 0 0), (Sl.mk none 0 0), (Sl.mk none 0 0), (Sl.mk none 0 0), (Sl.mk none 0 0), (Sl.mk none 0 0), (Sl.mk none 0 0), (Sl.mk none 0 0)), (Sl.mk none 0 0), (0 : Int), (0 : Int), (0 : Int), (0 : Int), (0 : Int), (0 : Int), (0 : Int), (0 : Int), (0 : Int), (0 : Int), (0 : Int), (0 : Int), (0 : Int), (0 : Int), (0 : Int), (0 : Int), (0 : Int), (0 : Int), (0 : Int), (0 : Int), (0 : Int), (0 : Int), (0 : Int), (0 : Int), (0 : Int), (0 : Int), (0 : Int), (0 : Int), (0 : Int), (0 : Int), (0 : Int), (0 : Int), (0 : Int), (0 : Int), (0 : Int), (0 : Int), (0 : Int), (0 : Int), (0 : Int), (0 : Int), (0 : Int), (0 : Int), (0 : Int), (0 : Int), (0 : Int), (0 : Int), (0 : Int), (0 : Int), (0 : Int), (0 : Int), (0 : Int), (0 : Int), (0 : Int), (0 : Int), (0 : Int), (0 : Int), (0 : Int), (0 : Int), (0 : Int), (0 : Int), (0 : Int), (0 : Int), (0 : Int), (0 : Int), (0 : Int))⟩),
  (74, ⟨(.agg (.pair (.int .i64) (.pair (.int .u8) (.int .i64)))), ((0 : Int), (0 : Int), (0 : Int))⟩),
  (76, ⟨(.agg (.pair (.int .i64) .sl)), ((0 : Int), (Sl.mk none 0 0))⟩),
  (79, ⟨(.agg (.pair (.int .i64) (.pair (.int .i64) (.int .i64)))), ((0 : Int), (0 : Int), (0 : Int))⟩)]
theorem zerosOk : AllN (fun T (z : TV) => ∃ i, Tryz.prog.info? T = some i ∧ i.zero = some z.v) zeros :=
  ⟨⟨_, (by kernel_rfl : Tryz.prog.info? 67 = some Tryz.t67), rfl⟩,
   ⟨_, (by kernel_rfl : Tryz.prog.info? 74 = some Tryz.t74), rfl⟩,
   ⟨_, (by kernel_rfl : Tryz.prog.info? 76 = some Tryz.t76), rfl⟩,
   ⟨_, (by kernel_rfl : Tryz.prog.info? 79 = some Tryz.t79), rfl⟩, trivial⟩
noncomputable def eqs : List (Nat × Ty) := []
theorem eqsOk : AllN (EqOk Tryz.prog) eqs := trivial
theorem mixed : Tryz.prog.follows .mixedOrders = true := by kernel_rfl
noncomputable def Cf5_sched_New : Ctx := mkC Tryz.prog tys zeros eqs [] []
/-- palaversched.New -/
noncomputable def f5_sched_New : M (Option Addr) :=
  bnd (newC 67 [.int .i64 (0 : Int), .int .i64 (0 : Int), .slice none 0 0, .slice none 0 0, .slice none 0 0, .slice none 0 0, .slice none 0 0, .slice none 0 0, .slice none 0 0, .slice none 0 0, .slice none 0 0, .slice none 0 0, .slice none 0 0, .slice none 0 0, .slice none 0 0, .slice none 0 0, .slice none 0 0, .slice none 0 0, .slice none 0 0, .slice none 0 0, .slice none 0 0, .slice none 0 0, .int .i64 (0 : Int), .int .i64 (0 : Int), .int .i64 (0 : Int), .int .i64 (0 : Int), .int .i64 (0 : Int), .int .i64 (0 : Int), .int .i64 (0 : Int), .int .i64 (0 : Int), .int .i64 (0 : Int), .int .i64 (0 : Int), .int .i64 (0 : Int), .int .i64 (0 : Int), .int .i64 (0 : Int), .int .i64 (0 : Int), .int .i64 (0 : Int), .int .i64 (0 : Int), .int .i64 (0 : Int), .int .i64 (0 : Int), .int .i64 (0 : Int), .int .i64 (0 : Int), .int .i64 (0 : Int), .int .i64 (0 : Int), .int .i64 (0 : Int), .int .i64 (0 : Int), .int .i64 (0 : Int), .int .i64 (0 : Int), .int .i64 (0 : Int), .int .i64 (0 : Int), .int .i64 (0 : Int), .int .i64 (0 : Int), .int .i64 (0 : Int), .int .i64 (0 : Int), .int .i64 (0 : Int), .int .i64 (0 : Int), .int .i64 (0 : Int), .int .i64 (0 : Int), .int .i64 (0 : Int), .int .i64 (0 : Int), .int .i64 (0 : Int), .int .i64 (0 : Int), .int .i64 (0 : Int), .int .i64 (0 : Int), .int .i64 (0 : Int), .int .i64 (0 : Int), .int .i64 (0 : Int), .int .i64 (0 : Int), .int .i64 (0 : Int), .int .i64 (0 : Int), .int .i64 (0 : Int), .int .i64 (0 : Int), .int .i64 (0 : Int), .int .i64 (0 : Int), .int .i64 (0 : Int), .int .i64 (0 : Int), .int .i64 (0 : Int), .int .i64 (0 : Int), .int .i64 (0 : Int), .int .i64 (0 : Int), .int .i64 (0 : Int), .int .i64 (0 : Int), .int .i64 (0 : Int), .int .i64 (0 : Int), .int .i64 (0 : Int), .int .i64 (0 : Int), .int .i64 (0 : Int)]) fun (p1 : Addr) =>
  ret (some p1)
noncomputable def Af5_sched_New : Ann := (.two .nil (.two .nil .nil))
theorem Cf5_sched_New_ok : Cf5_sched_New.Ok := mkC_ok mixed tysOk zerosOk eqsOk trivial trivial
theorem Ef5_sched_New (x : Unit) : evF Cf5_sched_New Tryz.f5 3 .unit .ptr Af5_sched_New x = f5_sched_New := by kernel_rfl
theorem Sf5_sched_New : SoundF Tryz.prog 5 ⟨.unit, .ptr, fun _ => f5_sched_New⟩ :=
  soundF_of Cf5_sched_New_ok Tryz.func5 (by kernel_rfl) (by kernel_rfl) Ef5_sched_New
noncomputable def Cf87_highest : Ctx := mkC Tryz.prog tys zeros eqs [] []
/-- (*palaversched.Sched).highest -/
noncomputable def f87_highest (x0 : Option Addr) : M Int :=
  loopM (fun (s1 : Int) =>
  cnd (decide (s1 > (0 : Int))) (
  bnd (drf x0) fun (p2 : Addr) =>
  bnd (ixA 17 1 (Addr.add p2 4) s1) fun (p3 : Addr) =>
  bnd (ld .sl p3) fun (v4 : Sl) =>
  cnd (decide ((v4.len : Int) > (0 : Int))) (
  ret (Sum.inr s1)) (
  ret (Sum.inl (IntKind.wrap .i64 (s1 - (1 : Int)))))) (
  ret (Sum.inr (0 : Int)))) (16 : Int)
noncomputable def Af87_highest : Ann := (.two .nil (.two (.two .nil (.one (.loop [(3, (.int .i64))] [2, 4, 5, 6, 7, 8, 9, 10, 11, 12, 13, 14, 15, 16] (.two (.two .nil (.two .nil .nil)) (.two (.one (.two .nil (.two (.two .nil .nil) .nil))) .nil))))) (.two .nil .nil)))
theorem Cf87_highest_ok : Cf87_highest.Ok := mkC_ok mixed tysOk zerosOk eqsOk trivial trivial
theorem Ef87_highest (x : Option Addr) : evF Cf87_highest Tryz.f87 17 .ptr (.int .i64) Af87_highest x = f87_highest x := by kernel_rfl
theorem Sf87_highest : SoundF Tryz.prog 87 ⟨.ptr, (.int .i64), fun x => f87_highest x⟩ :=
  soundF_of Cf87_highest_ok Tryz.func87 (by kernel_rfl) (by kernel_rfl) Ef87_highest
noncomputable def Cf64_of : Ctx := mkC Tryz.prog tys zeros eqs [] []
/-- (*palaversched.Sched).of -/
noncomputable def f64_of (x0 : Option Addr) (x1 : Int) : M (Option Addr) :=
  bnd (drf x0) fun (p1 : Addr) =>
  bnd (ld .sl (Addr.add p1 2)) fun (v2 : Sl) =>
  bnd (ix 3 v2 (IntKind.wrap .i64 (x1 - (1 : Int)))) fun (p3 : Addr) =>
  ret (some p3)
noncomputable def Af64_of : Ann := (.two .nil (.two .nil .nil))
theorem Cf64_of_ok : Cf64_of.Ok := mkC_ok mixed tysOk zerosOk eqsOk trivial trivial
theorem Ef64_of (x : (Option Addr × Int)) : evF Cf64_of Tryz.f64 12 (.pair .ptr (.int .i64)) .ptr Af64_of x = f64_of x.1 x.2 := by kernel_rfl
theorem Sf64_of : SoundF Tryz.prog 64 ⟨(.pair .ptr (.int .i64)), .ptr, fun x => f64_of x.1 x.2⟩ :=
  soundF_of Cf64_of_ok Tryz.func64 (by kernel_rfl) (by kernel_rfl) Ef64_of
noncomputable def Cf53_slices_Cloneint_int : Ctx := mkC Tryz.prog tys zeros eqs [] []
/-- slices.Cloneintint -/
noncomputable def f53_slices_Cloneint_int (x0 : Sl) : M Sl :=
  cnd (Option.isNone x0.a) (
  ret (Sl.mk none 0 0)) (
  bnd (runV Tryz.prog .sl (Instr.buildSlice 28 0 #[])) fun (v1 : Sl) =>
  bnd (runV Tryz.prog .sl (Builtin.append_ #[28, 28] 28 #[.slice v1.a v1.len v1.cap, .slice x0.a x0.len x0.cap])) fun (v2 : Sl) =>
  ret v2)
noncomputable def Af53_slices_Cloneint_int : Ann := (.two .nil (.two (.two .nil (.two (.two .nil .nil) .nil)) (.two .nil .nil)))
theorem Cf53_slices_Cloneint_int_ok : Cf53_slices_Cloneint_int.Ok := mkC_ok mixed tysOk zerosOk eqsOk trivial trivial
theorem Ef53_slices_Cloneint_int (x : Sl) : evF Cf53_slices_Cloneint_int Tryz.f53 8 .sl .sl Af53_slices_Cloneint_int x = f53_slices_Cloneint_int x := by kernel_rfl
theorem Sf53_slices_Cloneint_int : SoundF Tryz.prog 53 ⟨.sl, .sl, fun x => f53_slices_Cloneint_int x⟩ :=
  soundF_of Cf53_slices_Cloneint_int_ok Tryz.func53 (by kernel_rfl) (by kernel_rfl) Ef53_slices_Cloneint_int
noncomputable def Cf62_runs : Ctx := mkC Tryz.prog tys zeros eqs [(53, ⟨.sl, .sl, fun x => f53_slices_Cloneint_int x⟩), (64, ⟨(.pair .ptr (.int .i64)), .ptr, fun x => f64_of x.1 x.2⟩), (87, ⟨.ptr, (.int .i64), fun x => f87_highest x⟩)] []
/-- (*palaversched.Sched).runs -/
noncomputable def f62_runs (x0 : Option Addr) : M Unit :=
  bnd (f87_highest x0) fun (r1 : Int) =>
  bnd (drf x0) fun (p2 : Addr) =>
  bnd (ld (.int .i64) (Addr.add p2 1)) fun (v3 : Int) =>
  bnd (
  cnd (decide (v3 > (0 : Int))) (
  bnd (drf x0) fun (p5 : Addr) =>
  bnd (ld (.int .i64) (Addr.add p5 1)) fun (v6 : Int) =>
  bnd (f64_of x0 v6) fun (r7 : Option Addr) =>
  bnd (drf r7) fun (p8 : Addr) =>
  bnd (ld (.int .i64) (Addr.add p8 0)) fun (v9 : Int) =>
  cnd (decide (r1 ≤ v9)) (
  ret (Sum.inr ())) (
  bnd (drf r7) fun (p11 : Addr) =>
  bnd (wrs (Addr.add p11 1) 0 [.int .u8 (1 : Int)]) fun _ =>
  bnd (
  bnd (ordM 62 5 (regionIn 5 Tryz.f62)) fun (o13 : List Nat) =>
  bnd (drf r7) fun (p14 : Addr) =>
  bnd (ld (.int .i64) (Addr.add p14 0)) fun (v15 : Int) =>
  bnd (drf x0) fun (p16 : Addr) =>
  bnd (ld (.int .i64) (Addr.add p16 1)) fun (v17 : Int) =>
  bnd (drf r7) fun (p18 : Addr) =>
  bnd (ld (.int .i64) (Addr.add p18 0)) fun (v19 : Int) =>
  bnd (drf x0) fun (p20 : Addr) =>
  bnd (ixA 17 1 (Addr.add p20 4) v19) fun (p21 : Addr) =>
  bnd (ld .sl p21) fun (v22 : Sl) =>
  bnd (drf x0) fun (p23 : Addr) =>
  bnd (runV Tryz.prog .sl (Instr.buildSlice 28 1 #[(0, .int .i64 v17)])) fun (v24 : Sl) =>
  bnd (
  bnd (chk .sl p21 v22) fun _ =>
  bnd (chk (.int .i64) (Addr.add p18 0) v19) fun _ =>
  bnd (chk (.int .i64) (Addr.add p14 0) v15) fun _ =>
  ret ()) fun _ =>
  bnd (runV Tryz.prog .sl (Builtin.append_ #[28, 28] 28 #[.slice v24.a v24.len v24.cap, .slice v22.a v22.len v22.cap])) fun (v25 : Sl) =>
  bnd (
  bnd (chk (.int .i64) (Addr.add p18 0) v19) fun _ =>
  bnd (chk (.int .i64) (Addr.add p14 0) v15) fun _ =>
  ret ()) fun _ =>
  bnd (ixA 17 1 (Addr.add p23 4) v15) fun (p26 : Addr) =>
  bnd (wrs p26 0 [.slice v25.a v25.len v25.cap]) fun _ =>
  bnd (ret ()) fun _ =>
  ret ()) fun (s12 : Unit) =>
  bnd (drf x0) fun (p27 : Addr) =>
  bnd (wrs (Addr.add p27 1) 0 [.int .i64 (0 : Int)]) fun _ =>
  ret (Sum.inl ()))) (
  ret (Sum.inl ()))) (fun
  | .inl (s4 : Unit) =>
  bnd (
  cnd (decide (r1 > (0 : Int))) (
  bnd (
  bnd (ordM 62 8 (regionIn 8 Tryz.f62)) fun (o31 : List Nat) =>
  bnd (drf x0) fun (p32 : Addr) =>
  bnd (ixA 17 1 (Addr.add p32 4) r1) fun (p33 : Addr) =>
  bnd (ld .sl p33) fun (v34 : Sl) =>
  bnd (ix 1 v34 (0 : Int)) fun (p35 : Addr) =>
  bnd (ld (.int .i64) p35) fun (v36 : Int) =>
  bnd (drf x0) fun (p37 : Addr) =>
  bnd (ixA 17 1 (Addr.add p37 4) r1) fun (p38 : Addr) =>
  bnd (ld .sl p38) fun (v39 : Sl) =>
  bnd (slc 1 v39 (some (1 : Int)) none none) fun (v40 : Sl) =>
  bnd (drf x0) fun (p41 : Addr) =>
  bnd (f53_slices_Cloneint_int v40) fun (r42 : Sl) =>
  bnd (
  bnd (chk .sl p38 v39) fun _ =>
  bnd (chk (.int .i64) p35 v36) fun _ =>
  bnd (chk .sl p33 v34) fun _ =>
  ret ()) fun _ =>
  bnd (drf x0) fun (p43 : Addr) =>
  bnd (wrs (Addr.add p43 1) 0 [.int .i64 v36]) fun _ =>
  bnd (ret ()) fun _ =>
  bnd (ixA 17 1 (Addr.add p41 4) r1) fun (p44 : Addr) =>
  bnd (wrs p44 0 [.slice r42.a r42.len r42.cap]) fun _ =>
  bnd (ret ()) fun _ =>
  ret ()) fun (s30 : Unit) =>
  bnd (drf x0) fun (p45 : Addr) =>
  bnd (ld (.int .i64) (Addr.add p45 1)) fun (v46 : Int) =>
  bnd (f64_of x0 v46) fun (r47 : Option Addr) =>
  bnd (drf r47) fun (p48 : Addr) =>
  bnd (wrs (Addr.add p48 1) 0 [.int .u8 (2 : Int)]) fun _ =>
  ret ()) (
  ret ())) fun (s29 : Unit) =>
  ret ()
  | .inr r49 => ret r49)
noncomputable def Af62_runs : Ann := (.two .nil (.two (.two .nil (.join [] [3, 11, 12, 13, 14, 15, 16, 17, 18, 19, 20, 21, 22, 23, 24, 25, 26, 27, 28, 29, 30, 31, 32, 33, 34, 35, 36, 37, 38, 39, 40, 41, 42, 43, 44, 45, 46, 47, 48, 49, 50, 51] true (.two (.two .nil (.two (.two .nil (.two .nil .nil)) (.two .nil (.two (.join [] [26, 27, 28, 29, 30, 31, 32, 33, 34, 35, 36, 37, 38, 39, 40, 41, 42, 43, 44, 45, 46, 47, 48] false (.ord 62 [(0, 16777214), (0, 16777213), (2, 16777209), (4, 16777203), (8, 16777191), (0, 16777183), (32, 16777119), (64, 16777023), (128, 16776831), (256, 16776447), (0, 16776191), (0, 16775167), (2048, 16771071), (4096, 16764927), (8192, 16752639), (1024, 16743423), (32768, 16678911), (81920, 16564223), (131072, 16383999), (262656, 15990271), (1, 15728638), (1048576, 13631487), (3145727, 10485743), (5242879, 3670015)] (.o 0 (.o 1 (.o 2 (.o 3 (.o 4 (.o 5 (.o 6 (.o 7 (.o 8 (.o 10 (.o 11 (.o 12 (.o 13 (.o 14 (.o 15 (.o 16 (.o 17 (.o 18 (.o 20 (.o 21 (.o 9 (.o 19 (.o 22 (.o 23 .done)))))))))))))))))))))))))) .nil)))) .nil))) (.two .nil (.join [] [54, 55, 56, 57, 58, 59, 60, 61, 62, 63, 64, 65, 66, 67, 68, 69, 70, 71, 72, 73, 74, 75, 76, 77, 78, 79, 80, 81, 82, 83, 84, 85] false (.two (.two (.join [] [54, 55, 56, 57, 58, 59, 60, 61, 62, 63, 64, 65, 66, 67, 68, 69, 70, 71, 72, 73, 74, 75, 76, 77] false (.ord 62 [(0, 67108862), (0, 67108861), (0, 67108859), (0, 67108855), (0, 67108847), (8, 67108823), (32, 67108767), (80, 67108655), (128, 67108479), (256, 67108095), (512, 67107327), (0, 67106815), (0, 67104767), (2048, 67098623), (8192, 67084287), (20480, 67055615), (32768, 67010559), (65536, 66912255), (131072, 66715647), (329721, 66584574), (854009, 65535999), (1378297, 63962111), (2, 62914557), (4194304, 54525951), (12582911, 41943035), (20971519, 16515071)] (.o 0 (.o 1 (.o 2 (.o 3 (.o 4 (.o 5 (.o 6 (.o 7 (.o 8 (.o 9 (.o 10 (.o 11 (.o 12 (.o 13 (.o 14 (.o 15 (.o 16 (.o 17 (.o 22 (.o 23 (.o 18 (.o 19 (.o 20 (.o 21 (.o 24 (.o 25 .done)))))))))))))))))))))))))))) .nil) .nil)))))
theorem Cf62_runs_ok : Cf62_runs.Ok := mkC_ok mixed tysOk zerosOk eqsOk ⟨Sf53_slices_Cloneint_int, Sf64_of, Sf87_highest, trivial⟩ trivial
theorem EDf62_runs (x : Option Addr) : evF0 Cf62_runs Tryz.f62 86 .ptr (.tup .unit) Af62_runs x = f62_runs x := by kernel_rfl
theorem SDf62 : SoundD Tryz.prog 62 ⟨.ptr, (.tup .unit), fun x => f62_runs x⟩ :=
  soundD_of Cf62_runs_ok Tryz.func62 (by kernel_rfl) (by kernel_rfl) EDf62_runs
noncomputable def Cf63_ready : Ctx := mkC Tryz.prog tys zeros eqs [(64, ⟨(.pair .ptr (.int .i64)), .ptr, fun x => f64_of x.1 x.2⟩)] []
/-- (*palaversched.Sched).ready -/
noncomputable def f63_ready (x0 : Option Addr) (x1 : Int) : M Unit :=
  bnd (f64_of x0 x1) fun (r1 : Option Addr) =>
  bnd (drf r1) fun (p2 : Addr) =>
  bnd (wrs (Addr.add p2 1) 0 [.int .u8 (1 : Int)]) fun _ =>
  bnd (drf r1) fun (p3 : Addr) =>
  bnd (wrs (Addr.add p3 2) 0 [.int .i64 (0 : Int)]) fun _ =>
  bnd (
  bnd (ordM 63 2 (regionIn 2 Tryz.f63)) fun (o5 : List Nat) =>
  bnd (drf r1) fun (p6 : Addr) =>
  bnd (ld (.int .i64) (Addr.add p6 0)) fun (v7 : Int) =>
  bnd (drf r1) fun (p8 : Addr) =>
  bnd (ld (.int .i64) (Addr.add p8 0)) fun (v9 : Int) =>
  bnd (drf x0) fun (p10 : Addr) =>
  bnd (ixA 17 1 (Addr.add p10 4) v9) fun (p11 : Addr) =>
  bnd (ld .sl p11) fun (v12 : Sl) =>
  bnd (drf x0) fun (p13 : Addr) =>
  bnd (runV Tryz.prog .sl (Instr.buildSlice 28 1 #[(0, .int .i64 x1)])) fun (v14 : Sl) =>
  bnd (
  bnd (chk .sl p11 v12) fun _ =>
  bnd (chk (.int .i64) (Addr.add p8 0) v9) fun _ =>
  bnd (chk (.int .i64) (Addr.add p6 0) v7) fun _ =>
  ret ()) fun _ =>
  bnd (runV Tryz.prog .sl (Builtin.append_ #[28, 28] 28 #[.slice v12.a v12.len v12.cap, .slice v14.a v14.len v14.cap])) fun (v15 : Sl) =>
  bnd (
  bnd (chk (.int .i64) (Addr.add p8 0) v9) fun _ =>
  bnd (chk (.int .i64) (Addr.add p6 0) v7) fun _ =>
  ret ()) fun _ =>
  bnd (ixA 17 1 (Addr.add p13 4) v7) fun (p16 : Addr) =>
  bnd (wrs p16 0 [.slice v15.a v15.len v15.cap]) fun _ =>
  bnd (ret ()) fun _ =>
  ret ()) fun (s4 : Unit) =>
  ret ()
noncomputable def Af63_ready : Ann := (.two .nil (.two .nil (.join [] [14, 15, 16, 17, 18, 19, 20, 21, 22, 23, 24, 25, 26, 27, 28, 29, 30, 31, 32, 33] false (.ord 63 [(0, 2097150), (0, 2097149), (2, 2097145), (4, 2097139), (8, 2097127), (0, 2097119), (0, 2097087), (64, 2096959), (128, 2096767), (256, 2096383), (32, 2096095), (1024, 2094079), (2560, 2090495), (4096, 2084863), (0, 2080767), (16384, 2047999), (40960, 1990655), (1, 1966078), (131072, 1703935), (393215, 1310703), (655359, 458751)] (.o 0 (.o 1 (.o 2 (.o 3 (.o 4 (.o 5 (.o 6 (.o 7 (.o 8 (.o 9 (.o 10 (.o 11 (.o 12 (.o 13 (.o 14 (.o 17 (.o 18 (.o 15 (.o 16 (.o 19 (.o 20 .done)))))))))))))))))))))))))
theorem Cf63_ready_ok : Cf63_ready.Ok := mkC_ok mixed tysOk zerosOk eqsOk ⟨Sf64_of, trivial⟩ trivial
theorem Ef63_ready (x : (Option Addr × Int)) : evF Cf63_ready Tryz.f63 34 (.pair .ptr (.int .i64)) (.tup .unit) Af63_ready x = f63_ready x.1 x.2 := by kernel_rfl
theorem Sf63_ready : SoundF Tryz.prog 63 ⟨(.pair .ptr (.int .i64)), (.tup .unit), fun x => f63_ready x.1 x.2⟩ :=
  soundF_of Cf63_ready_ok Tryz.func63 (by kernel_rfl) (by kernel_rfl) Ef63_ready
noncomputable def Bf16_Fork : Ctx := mkC Tryz.prog tys zeros eqs [(63, ⟨(.pair .ptr (.int .i64)), (.tup .unit), fun x => f63_ready x.1 x.2⟩)] []
noncomputable def Cf16_Fork : Ctx := Bf16_Fork.with [(62, ⟨.ptr, (.tup .unit), fun x => f62_runs x⟩)] []
/-- (*palaversched.Sched).Fork -/
noncomputable def f16_Fork (x0 : Option Addr) (x1 : Int) : M (Int × Int) :=
  cnd (cond (decide (x1 < (1 : Int))) true (decide (x1 > (16 : Int)))) (
  ret ((0 : Int), (1 : Int))) (
  bnd (drf x0) fun (p1 : Addr) =>
  bnd (ld .sl (Addr.add p1 2)) fun (v2 : Sl) =>
  cnd (decide ((v2.len : Int) ≥ (4096 : Int))) (
  ret ((0 : Int), (264 : Int))) (
  bnd (drf x0) fun (p3 : Addr) =>
  bnd (ld .sl (Addr.add p3 2)) fun (v4 : Sl) =>
  bnd (runV Tryz.prog .sl (Instr.buildSlice 61 1 #[(0, .agg #[.int .i64 x1, .int .u8 (0 : Int), .int .i64 (0 : Int)])])) fun (v5 : Sl) =>
  bnd (runV Tryz.prog .sl (Builtin.append_ #[61, 61] 61 #[.slice v4.a v4.len v4.cap, .slice v5.a v5.len v5.cap])) fun (v6 : Sl) =>
  bnd (drf x0) fun (p7 : Addr) =>
  bnd (wrs (Addr.add p7 2) 0 [.slice v6.a v6.len v6.cap]) fun _ =>
  bnd (drf x0) fun (p8 : Addr) =>
  bnd (ld .sl (Addr.add p8 2)) fun (v9 : Sl) =>
  bnd (f63_ready x0 (v9.len : Int)) fun (r10 : Unit) =>
  bnd (drf x0) fun (p11 : Addr) =>
  bnd (ld .sl (Addr.add p11 2)) fun (v12 : Sl) =>
  bnd (f62_runs x0) fun _ =>
  ret ((v12.len : Int), (0 : Int))))
noncomputable def Af16_Fork : Ann := (.two .nil (.two (.one (.two .nil (.two (.two .nil .nil) (.two .nil (.two (.two .nil .nil) .nil))))) (.two .dfr (.two .nil (.two .nil (.two .nil .nil))))))
theorem Bf16_Fork_ok : Bf16_Fork.Ok := mkC_ok mixed tysOk zerosOk eqsOk ⟨Sf63_ready, trivial⟩ trivial
theorem Cf16_Fork_ok : Cf16_Fork.Ok := with_ok Bf16_Fork_ok ⟨SDf62, trivial⟩ trivial
theorem Ef16_Fork (x : (Option Addr × Int)) : evF Cf16_Fork Tryz.f16 44 (.pair .ptr (.int .i64)) (.tup (.pair (.int .i64) (.int .i64))) Af16_Fork x = f16_Fork x.1 x.2 := by kernel_rfl
theorem Sf16_Fork : SoundF Tryz.prog 16 ⟨(.pair .ptr (.int .i64)), (.tup (.pair (.int .i64) (.int .i64))), fun x => f16_Fork x.1 x.2⟩ :=
  soundF_of Cf16_Fork_ok Tryz.func16 (by kernel_rfl) (by kernel_rfl) Ef16_Fork
noncomputable def Cf7_Active : Ctx := mkC Tryz.prog tys zeros eqs [] []
/-- (*palaversched.Sched).Active -/
noncomputable def f7_Active (x0 : Option Addr) : M Int :=
  bnd (drf x0) fun (p1 : Addr) =>
  bnd (ld (.int .i64) (Addr.add p1 1)) fun (v2 : Int) =>
  ret v2
noncomputable def Af7_Active : Ann := (.two .nil (.two .nil .nil))
theorem Cf7_Active_ok : Cf7_Active.Ok := mkC_ok mixed tysOk zerosOk eqsOk trivial trivial
theorem Ef7_Active (x : Option Addr) : evF Cf7_Active Tryz.f7 7 .ptr (.int .i64) Af7_Active x = f7_Active x := by kernel_rfl
theorem Sf7_Active : SoundF Tryz.prog 7 ⟨.ptr, (.int .i64), fun x => f7_Active x⟩ :=
  soundF_of Cf7_Active_ok Tryz.func7 (by kernel_rfl) (by kernel_rfl) Ef7_Active
noncomputable def Cf13_Ready : Ctx := mkC Tryz.prog tys zeros eqs [] []
/-- (*palaversched.Sched).Ready -/
noncomputable def f13_Ready (x0 : Option Addr) : M Sl :=
  loopM (fun (s1 : (Sl × Int)) =>
  cnd (decide (s1.2 > (0 : Int))) (
  bnd (drf x0) fun (p2 : Addr) =>
  bnd (ixA 17 1 (Addr.add p2 4) s1.2) fun (p3 : Addr) =>
  bnd (ld .sl p3) fun (v4 : Sl) =>
  bnd (runV Tryz.prog .sl (Builtin.append_ #[28, 28] 28 #[.slice s1.1.a s1.1.len s1.1.cap, .slice v4.a v4.len v4.cap])) fun (v5 : Sl) =>
  ret (Sum.inl (v5, (IntKind.wrap .i64 (s1.2 - (1 : Int)))))) (
  ret (Sum.inr s1.1))) ((Sl.mk none 0 0), (16 : Int))
noncomputable def Af13_Ready : Ann := (.two .nil (.two (.two .nil (.one (.loop [(2, .sl), (3, (.int .i64))] [4, 5, 6, 7, 8, 9, 10, 11, 12, 13, 14, 15] (.two (.two .nil (.two .nil .nil)) (.two (.one .nil) .nil))))) (.two .nil .nil)))
theorem Cf13_Ready_ok : Cf13_Ready.Ok := mkC_ok mixed tysOk zerosOk eqsOk trivial trivial
theorem Ef13_Ready (x : Option Addr) : evF Cf13_Ready Tryz.f13 17 .ptr .sl Af13_Ready x = f13_Ready x := by kernel_rfl
theorem Sf13_Ready : SoundF Tryz.prog 13 ⟨.ptr, .sl, fun x => f13_Ready x⟩ :=
  soundF_of Cf13_Ready_ok Tryz.func13 (by kernel_rfl) (by kernel_rfl) Ef13_Ready
noncomputable def Cf11_SameInts : Ctx := mkC Tryz.prog tys zeros eqs [] []
/-- palaverpalaverref00.SameInts -/
noncomputable def f11_SameInts (x0 : Sl) (x1 : Sl) : M Bool :=
  cnd ((x0.len : Int) != (x1.len : Int)) (
  ret false) (
  loopM (fun (s1 : Int) =>
  cnd (decide (s1 < (x0.len : Int))) (
  bnd drawM fun _ =>
  bnd (ix 1 x0 s1) fun (p2 : Addr) =>
  bnd (ld (.int .i64) p2) fun (v3 : Int) =>
  bnd (ix 1 x1 s1) fun (p4 : Addr) =>
  bnd (ld (.int .i64) p4) fun (v5 : Int) =>
  cnd (v3 != v5) (
  ret (Sum.inr false)) (
  ret (Sum.inl (IntKind.wrap .i64 (s1 + (1 : Int)))))) (
  ret (Sum.inr true))) (0 : Int))
noncomputable def Af11_SameInts : Ann := (.two .nil (.two (.two .nil (.two (.two .nil .nil) .nil)) (.two (.two .nil (.one (.loop [(5, (.int .i64))] [4, 11, 12, 13, 14, 15, 16, 17, 18, 19, 20, 21, 22, 23, 24, 25] (.two (.two .nil (.two .nil .nil)) (.two (.one (.two .nil (.two (.two .nil .nil) .nil))) .nil))))) (.two .nil .nil))))
theorem Cf11_SameInts_ok : Cf11_SameInts.Ok := mkC_ok mixed tysOk zerosOk eqsOk trivial trivial
theorem Ef11_SameInts (x : (Sl × Sl)) : evF Cf11_SameInts Tryz.f11 26 (.pair .sl .sl) .bool Af11_SameInts x = f11_SameInts x.1 x.2 := by kernel_rfl
theorem Sf11_SameInts : SoundF Tryz.prog 11 ⟨(.pair .sl .sl), .bool, fun x => f11_SameInts x.1 x.2⟩ :=
  soundF_of Cf11_SameInts_ok Tryz.func11 (by kernel_rfl) (by kernel_rfl) Ef11_SameInts
noncomputable def Cf17_Semaphore : Ctx := mkC Tryz.prog tys zeros eqs [] []
/-- (*palaversched.Sched).Semaphore -/
noncomputable def f17_Semaphore (x0 : Option Addr) : M (Int × Int) :=
  bnd (drf x0) fun (p1 : Addr) =>
  bnd (ld .sl (Addr.add p1 3)) fun (v2 : Sl) =>
  cnd (decide ((v2.len : Int) ≥ (4096 : Int))) (
  ret ((0 : Int), (264 : Int))) (
  bnd (drf x0) fun (p3 : Addr) =>
  bnd (ld .sl (Addr.add p3 3)) fun (v4 : Sl) =>
  bnd (runV Tryz.prog .sl (Instr.buildSlice 62 1 #[(0, .agg #[.int .i64 (0 : Int), .slice none 0 0])])) fun (v5 : Sl) =>
  bnd (runV Tryz.prog .sl (Builtin.append_ #[62, 62] 62 #[.slice v4.a v4.len v4.cap, .slice v5.a v5.len v5.cap])) fun (v6 : Sl) =>
  bnd (drf x0) fun (p7 : Addr) =>
  bnd (wrs (Addr.add p7 3) 0 [.slice v6.a v6.len v6.cap]) fun _ =>
  bnd (drf x0) fun (p8 : Addr) =>
  bnd (ld .sl (Addr.add p8 3)) fun (v9 : Sl) =>
  ret ((v9.len : Int), (0 : Int)))
noncomputable def Af17_Semaphore : Ann := (.two .nil (.two (.two .nil (.two (.two .nil .nil) .nil)) (.two .nil (.two .nil .nil))))
theorem Cf17_Semaphore_ok : Cf17_Semaphore.Ok := mkC_ok mixed tysOk zerosOk eqsOk trivial trivial
theorem Ef17_Semaphore (x : Option Addr) : evF Cf17_Semaphore Tryz.f17 25 .ptr (.tup (.pair (.int .i64) (.int .i64))) Af17_Semaphore x = f17_Semaphore x := by kernel_rfl
theorem Sf17_Semaphore : SoundF Tryz.prog 17 ⟨.ptr, (.tup (.pair (.int .i64) (.int .i64))), fun x => f17_Semaphore x⟩ :=
  soundF_of Cf17_Semaphore_ok Tryz.func17 (by kernel_rfl) (by kernel_rfl) Ef17_Semaphore
noncomputable def Cf52_sem : Ctx := mkC Tryz.prog tys zeros eqs [] []
/-- (*palaversched.Sched).sem -/
noncomputable def f52_sem (x0 : Option Addr) (x1 : Int) : M (Option Addr) :=
  bnd (
  cnd (decide (x1 < (1 : Int))) (
  ret true) (
  bnd (drf x0) fun (p1 : Addr) =>
  bnd (ld .sl (Addr.add p1 3)) fun (v2 : Sl) =>
  ret (decide (x1 > (v2.len : Int))))) fun (b3 : Bool) =>
  cnd b3 (
  ret none) (
  bnd (drf x0) fun (p4 : Addr) =>
  bnd (ld .sl (Addr.add p4 3)) fun (v5 : Sl) =>
  bnd (ix 2 v5 (IntKind.wrap .i64 (x1 - (1 : Int)))) fun (p6 : Addr) =>
  ret (some p6))
noncomputable def Af52_sem : Ann := (.two .nil (.two (.two .nil (.two (.two .nil .nil) .nil)) (.two .nil .nil)))
theorem Cf52_sem_ok : Cf52_sem.Ok := mkC_ok mixed tysOk zerosOk eqsOk trivial trivial
theorem Ef52_sem (x : (Option Addr × Int)) : evF Cf52_sem Tryz.f52 23 (.pair .ptr (.int .i64)) .ptr Af52_sem x = f52_sem x.1 x.2 := by kernel_rfl
theorem Sf52_sem : SoundF Tryz.prog 52 ⟨(.pair .ptr (.int .i64)), .ptr, fun x => f52_sem x.1 x.2⟩ :=
  soundF_of Cf52_sem_ok Tryz.func52 (by kernel_rfl) (by kernel_rfl) Ef52_sem
noncomputable def Bf18_Wait : Ctx := mkC Tryz.prog tys zeros eqs [(52, ⟨(.pair .ptr (.int .i64)), .ptr, fun x => f52_sem x.1 x.2⟩), (64, ⟨(.pair .ptr (.int .i64)), .ptr, fun x => f64_of x.1 x.2⟩)] []
noncomputable def Cf18_Wait : Ctx := Bf18_Wait.with [(62, ⟨.ptr, (.tup .unit), fun x => f62_runs x⟩)] []
/-- (*palaversched.Sched).Wait -/
noncomputable def f18_Wait (x0 : Option Addr) (x1 : Int) : M Int :=
  bnd (f52_sem x0 x1) fun (r1 : Option Addr) =>
  bnd (drf x0) fun (p2 : Addr) =>
  bnd (ld (.int .i64) (Addr.add p2 1)) fun (v3 : Int) =>
  cnd (v3 == (0 : Int)) (
  ret (265 : Int)) (
  cnd (Option.isNone r1) (
  ret (261 : Int)) (
  bnd (drf r1) fun (p4 : Addr) =>
  bnd (ld (.int .i64) (Addr.add p4 0)) fun (v5 : Int) =>
  cnd (decide (v5 > (0 : Int))) (
  bnd (drf r1) fun (p6 : Addr) =>
  bnd (ld (.int .i64) (Addr.add p6 0)) fun (v7 : Int) =>
  bnd (drf r1) fun (p8 : Addr) =>
  bnd (wrs (Addr.add p8 0) 0 [.int .i64 (IntKind.wrap .i64 (v7 - (1 : Int)))]) fun _ =>
  ret (0 : Int)) (
  bnd (drf x0) fun (p9 : Addr) =>
  bnd (ld (.int .i64) (Addr.add p9 1)) fun (v10 : Int) =>
  bnd (f64_of x0 v10) fun (r11 : Option Addr) =>
  bnd (drf r11) fun (p12 : Addr) =>
  bnd (wrs (Addr.add p12 1) 0 [.int .u8 (3 : Int)]) fun _ =>
  bnd (drf r11) fun (p13 : Addr) =>
  bnd (wrs (Addr.add p13 2) 0 [.int .i64 x1]) fun _ =>
  bnd (
  bnd (ordM 18 12 (regionIn 12 Tryz.f18)) fun (o15 : List Nat) =>
  bnd (drf r1) fun (p16 : Addr) =>
  bnd (ld .sl (Addr.add p16 1)) fun (v17 : Sl) =>
  bnd (drf x0) fun (p18 : Addr) =>
  bnd (ld (.int .i64) (Addr.add p18 1)) fun (v19 : Int) =>
  bnd (runV Tryz.prog .sl (Instr.buildSlice 28 1 #[(0, .int .i64 v19)])) fun (v20 : Sl) =>
  bnd (
  bnd (chk .sl (Addr.add p16 1) v17) fun _ =>
  ret ()) fun _ =>
  bnd (runV Tryz.prog .sl (Builtin.append_ #[28, 28] 28 #[.slice v17.a v17.len v17.cap, .slice v20.a v20.len v20.cap])) fun (v21 : Sl) =>
  bnd (ret ()) fun _ =>
  bnd (drf r1) fun (p22 : Addr) =>
  bnd (wrs (Addr.add p22 1) 0 [.slice v21.a v21.len v21.cap]) fun _ =>
  bnd (ret ()) fun _ =>
  ret ()) fun (s14 : Unit) =>
  bnd (drf x0) fun (p23 : Addr) =>
  bnd (wrs (Addr.add p23 1) 0 [.int .i64 (0 : Int)]) fun _ =>
  bnd (f62_runs x0) fun _ =>
  ret (0 : Int))))
noncomputable def Af18_Wait : Ann := (.two .nil (.two .nil (.two (.one (.two .nil (.two (.two .nil .nil) (.two .nil (.two (.two .nil .nil) (.two .nil (.two (.two .nil (.two .nil .nil)) .nil))))))) (.two .dfr (.two .nil (.two .nil (.two (.join [] [46, 47, 48, 49, 50, 51, 52, 53, 54, 55, 56, 57, 58] false (.ord 18 [(0, 16382), (0, 16381), (2, 16377), (4, 16371), (8, 16359), (0, 16351), (32, 16287), (64, 16191), (128, 15999), (256, 15615), (528, 14831), (2047, 14334), (4095, 10239), (6143, 3071)] (.o 0 (.o 1 (.o 2 (.o 3 (.o 4 (.o 5 (.o 6 (.o 7 (.o 8 (.o 9 (.o 10 (.o 11 (.o 12 (.o 13 .done)))))))))))))))) (.two .nil (.two .nil .nil)))))))))
theorem Bf18_Wait_ok : Bf18_Wait.Ok := mkC_ok mixed tysOk zerosOk eqsOk ⟨Sf52_sem, Sf64_of, trivial⟩ trivial
theorem Cf18_Wait_ok : Cf18_Wait.Ok := with_ok Bf18_Wait_ok ⟨SDf62, trivial⟩ trivial
theorem Ef18_Wait (x : (Option Addr × Int)) : evF Cf18_Wait Tryz.f18 62 (.pair .ptr (.int .i64)) (.int .i64) Af18_Wait x = f18_Wait x.1 x.2 := by kernel_rfl
theorem Sf18_Wait : SoundF Tryz.prog 18 ⟨(.pair .ptr (.int .i64)), (.int .i64), fun x => f18_Wait x.1 x.2⟩ :=
  soundF_of Cf18_Wait_ok Tryz.func18 (by kernel_rfl) (by kernel_rfl) Ef18_Wait
noncomputable def Cf65_signal : Ctx := mkC Tryz.prog tys zeros eqs [(52, ⟨(.pair .ptr (.int .i64)), .ptr, fun x => f52_sem x.1 x.2⟩), (53, ⟨.sl, .sl, fun x => f53_slices_Cloneint_int x⟩), (63, ⟨(.pair .ptr (.int .i64)), (.tup .unit), fun x => f63_ready x.1 x.2⟩)] []
/-- (*palaversched.Sched).signal -/
noncomputable def f65_signal (x0 : Option Addr) (x1 : Int) : M Int :=
  bnd (f52_sem x0 x1) fun (r1 : Option Addr) =>
  cnd (Option.isNone r1) (
  ret (261 : Int)) (
  bnd (drf r1) fun (p2 : Addr) =>
  bnd (ld .sl (Addr.add p2 1)) fun (v3 : Sl) =>
  bnd (
  cnd (decide ((v3.len : Int) > (0 : Int))) (
  bnd (drf r1) fun (p5 : Addr) =>
  bnd (ld .sl (Addr.add p5 1)) fun (v6 : Sl) =>
  bnd (ix 1 v6 (0 : Int)) fun (p7 : Addr) =>
  bnd (ld (.int .i64) p7) fun (v8 : Int) =>
  bnd (drf r1) fun (p9 : Addr) =>
  bnd (ld .sl (Addr.add p9 1)) fun (v10 : Sl) =>
  bnd (slc 1 v10 (some (1 : Int)) none none) fun (v11 : Sl) =>
  bnd (f53_slices_Cloneint_int v11) fun (r12 : Sl) =>
  bnd (drf r1) fun (p13 : Addr) =>
  bnd (wrs (Addr.add p13 1) 0 [.slice r12.a r12.len r12.cap]) fun _ =>
  bnd (f63_ready x0 v8) fun (r14 : Unit) =>
  ret (Sum.inl ())) (
  bnd (drf r1) fun (p15 : Addr) =>
  bnd (ld (.int .i64) (Addr.add p15 0)) fun (v16 : Int) =>
  cnd (decide (v16 ≥ (1073741824 : Int))) (
  ret (Sum.inr (264 : Int))) (
  bnd (drf r1) fun (p18 : Addr) =>
  bnd (ld (.int .i64) (Addr.add p18 0)) fun (v19 : Int) =>
  bnd (drf r1) fun (p20 : Addr) =>
  bnd (wrs (Addr.add p20 0) 0 [.int .i64 (IntKind.wrap .i64 (v19 + (1 : Int)))]) fun _ =>
  ret (Sum.inl ())))) (fun
  | .inl (s4 : Unit) =>
  ret (0 : Int)
  | .inr r22 => ret r22))
noncomputable def Af65_signal : Ann := (.two .nil (.two .nil (.two (.one (.two .nil (.two (.two .nil .nil) (.two .nil (.join [] [4, 6, 10, 11, 12, 13, 14, 15, 16, 27, 28, 29, 30, 31, 32, 33, 34, 35, 36, 37, 38, 39, 40, 41, 42, 43, 44, 45, 46, 47, 48, 49, 50] true (.two (.two .nil (.two .nil .nil)) (.two .nil (.two (.two .nil .nil) .nil)))))))) (.two .nil .nil))))
theorem Cf65_signal_ok : Cf65_signal.Ok := mkC_ok mixed tysOk zerosOk eqsOk ⟨Sf52_sem, Sf53_slices_Cloneint_int, Sf63_ready, trivial⟩ trivial
theorem Ef65_signal (x : (Option Addr × Int)) : evF Cf65_signal Tryz.f65 51 (.pair .ptr (.int .i64)) (.int .i64) Af65_signal x = f65_signal x.1 x.2 := by kernel_rfl
theorem Sf65_signal : SoundF Tryz.prog 65 ⟨(.pair .ptr (.int .i64)), (.int .i64), fun x => f65_signal x.1 x.2⟩ :=
  soundF_of Cf65_signal_ok Tryz.func65 (by kernel_rfl) (by kernel_rfl) Ef65_signal
noncomputable def Bf19_Signal : Ctx := mkC Tryz.prog tys zeros eqs [(65, ⟨(.pair .ptr (.int .i64)), (.int .i64), fun x => f65_signal x.1 x.2⟩)] []
noncomputable def Cf19_Signal : Ctx := Bf19_Signal.with [(62, ⟨.ptr, (.tup .unit), fun x => f62_runs x⟩)] []
/-- (*palaversched.Sched).Signal -/
noncomputable def f19_Signal (x0 : Option Addr) (x1 : Int) : M Int :=
  bnd (f65_signal x0 x1) fun (r1 : Int) =>
  bnd (f62_runs x0) fun _ =>
  ret r1
noncomputable def Af19_Signal : Ann := (.two .nil (.two .dfr (.two .nil .nil)))
theorem Bf19_Signal_ok : Bf19_Signal.Ok := mkC_ok mixed tysOk zerosOk eqsOk ⟨Sf65_signal, trivial⟩ trivial
theorem Cf19_Signal_ok : Cf19_Signal.Ok := with_ok Bf19_Signal_ok ⟨SDf62, trivial⟩ trivial
theorem Ef19_Signal (x : (Option Addr × Int)) : evF Cf19_Signal Tryz.f19 9 (.pair .ptr (.int .i64)) (.int .i64) Af19_Signal x = f19_Signal x.1 x.2 := by kernel_rfl
theorem Sf19_Signal : SoundF Tryz.prog 19 ⟨(.pair .ptr (.int .i64)), (.int .i64), fun x => f19_Signal x.1 x.2⟩ :=
  soundF_of Cf19_Signal_ok Tryz.func19 (by kernel_rfl) (by kernel_rfl) Ef19_Signal
noncomputable def Cf66_alive : Ctx := mkC Tryz.prog tys zeros eqs [(64, ⟨(.pair .ptr (.int .i64)), .ptr, fun x => f64_of x.1 x.2⟩)] []
/-- (*palaversched.Sched).alive -/
noncomputable def f66_alive (x0 : Option Addr) (x1 : Int) : M Int :=
  bnd (
  cnd (decide (x1 < (1 : Int))) (
  ret true) (
  bnd (drf x0) fun (p1 : Addr) =>
  bnd (ld .sl (Addr.add p1 2)) fun (v2 : Sl) =>
  ret (decide (x1 > (v2.len : Int))))) fun (b3 : Bool) =>
  cnd b3 (
  ret (260 : Int)) (
  bnd (f64_of x0 x1) fun (r4 : Option Addr) =>
  bnd (drf r4) fun (p5 : Addr) =>
  bnd (ld (.int .u8) (Addr.add p5 1)) fun (v6 : Int) =>
  cnd (v6 == (5 : Int)) (
  ret (263 : Int)) (
  ret (0 : Int)))
noncomputable def Af66_alive : Ann := (.two .nil (.two (.one (.two .nil (.two (.two .nil .nil) (.two .nil (.two (.two .nil .nil) .nil))))) (.two .nil .nil)))
theorem Cf66_alive_ok : Cf66_alive.Ok := mkC_ok mixed tysOk zerosOk eqsOk ⟨Sf64_of, trivial⟩ trivial
theorem Ef66_alive (x : (Option Addr × Int)) : evF Cf66_alive Tryz.f66 25 (.pair .ptr (.int .i64)) (.int .i64) Af66_alive x = f66_alive x.1 x.2 := by kernel_rfl
theorem Sf66_alive : SoundF Tryz.prog 66 ⟨(.pair .ptr (.int .i64)), (.int .i64), fun x => f66_alive x.1 x.2⟩ :=
  soundF_of Cf66_alive_ok Tryz.func66 (by kernel_rfl) (by kernel_rfl) Ef66_alive
noncomputable def Cf88_out_1 : Ctx := mkC Tryz.prog tys zeros eqs [] []
/-- (*palaversched.Sched).out$1 -/
noncomputable def f88_out_1 (x0 : Int) (x1 : Addr) : M Bool :=
  bnd (ld (.int .i64) x1) fun (v1 : Int) =>
  ret (x0 == v1)
noncomputable def Af88_out_1 : Ann := (.two .nil (.two .nil .nil))
theorem Cf88_out_1_ok : Cf88_out_1.Ok := mkC_ok mixed tysOk zerosOk eqsOk trivial trivial
theorem Ef88_out_1 (x : (Int × Addr)) : evF Cf88_out_1 Tryz.f88 7 (.pair (.int .i64) .adr) .bool Af88_out_1 x = f88_out_1 x.1 x.2 := by kernel_rfl
theorem Sf88_out_1 : SoundF Tryz.prog 88 ⟨(.pair (.int .i64) .adr), .bool, fun x => f88_out_1 x.1 x.2⟩ :=
  soundF_of Cf88_out_1_ok Tryz.func88 (by kernel_rfl) (by kernel_rfl) Ef88_out_1
noncomputable def Cf104_slices_IndexFuncint_int : Ctx := mkC Tryz.prog tys zeros eqs [(88, ⟨(.pair (.int .i64) .adr), .bool, fun x => f88_out_1 x.1 x.2⟩)] []
/-- slices.IndexFuncintint -/
noncomputable def f104_slices_IndexFuncint_int (x0 : Sl) (x1 : Addr) : M Int :=
  loopM (fun (s1 : Int) =>
  cnd (decide (s1 < (x0.len : Int))) (
  bnd (ix 1 x0 s1) fun (p2 : Addr) =>
  bnd (ld (.int .i64) p2) fun (v3 : Int) =>
  bnd (f88_out_1 v3 x1) fun (r4 : Bool) =>
  cnd r4 (
  ret (Sum.inr s1)) (
  ret (Sum.inl (IntKind.wrap .i64 (s1 + (1 : Int)))))) (
  ret (Sum.inr (-1 : Int)))) (0 : Int)
noncomputable def Af104_slices_IndexFuncint_int : Ann := (.two .nil (.two (.two .nil (.one (.loop [(8, (.int .i64))] [4, 5, 9, 10, 11, 12, 13, 14, 15, 16, 17, 18] (.two .nil (.two (.two .nil .nil) (.two (.one (.two .nil (.two .nil (.two (.two .nil .nil) .nil)))) .nil)))))) (.two .nil .nil)))
theorem Cf104_slices_IndexFuncint_int_ok : Cf104_slices_IndexFuncint_int.Ok := mkC_ok mixed tysOk zerosOk eqsOk ⟨Sf88_out_1, trivial⟩ trivial
theorem Ef104_slices_IndexFuncint_int (x : (Sl × Addr)) : evF Cf104_slices_IndexFuncint_int Tryz.f104 19 (.pair .sl (.clo 88 .adr)) (.int .i64) Af104_slices_IndexFuncint_int x = f104_slices_IndexFuncint_int x.1 x.2 := by kernel_rfl
theorem Sf104_slices_IndexFuncint_int : SoundF Tryz.prog 104 ⟨(.pair .sl (.clo 88 .adr)), (.int .i64), fun x => f104_slices_IndexFuncint_int x.1 x.2⟩ :=
  soundF_of Cf104_slices_IndexFuncint_int_ok Tryz.func104 (by kernel_rfl) (by kernel_rfl) Ef104_slices_IndexFuncint_int
noncomputable def Cf89_slices_DeleteFuncint_int : Ctx := mkC Tryz.prog tys zeros eqs [(88, ⟨(.pair (.int .i64) .adr), .bool, fun x => f88_out_1 x.1 x.2⟩), (104, ⟨(.pair .sl (.clo 88 .adr)), (.int .i64), fun x => f104_slices_IndexFuncint_int x.1 x.2⟩)] []
/-- slices.DeleteFuncintint -/
noncomputable def f89_slices_DeleteFuncint_int (x0 : Sl) (x1 : Addr) : M Sl :=
  bnd (f104_slices_IndexFuncint_int x0 x1) fun (r1 : Int) =>
  cnd (r1 == (-1 : Int)) (
  ret x0) (
  loopM (fun (s2 : (Int × Int)) =>
  cnd (decide (s2.2 < (x0.len : Int))) (
  bnd (ix 1 x0 s2.2) fun (p3 : Addr) =>
  bnd (ld (.int .i64) p3) fun (v4 : Int) =>
  bnd (f88_out_1 v4 x1) fun (r5 : Bool) =>
  bnd (
  cnd (!r5) (
  bnd (ix 1 x0 s2.1) fun (p7 : Addr) =>
  bnd (wrs p7 0 [.int .i64 v4]) fun _ =>
  ret (IntKind.wrap .i64 (s2.1 + (1 : Int)))) (
  ret s2.1)) fun (s6 : Int) =>
  ret (Sum.inl (s6, (IntKind.wrap .i64 (s2.2 + (1 : Int)))))) (
  bnd (
  bnd (slc 1 x0 (some s2.1) none none) fun (v8 : Sl) =>
  bnd (runV Tryz.prog (.tup .unit) (Builtin.clear_ #[28] 0 #[.slice v8.a v8.len v8.cap])) fun (v9 : Unit) =>
  bnd (slc 1 x0 none (some s2.1) none) fun (v10 : Sl) =>
  ret v10) fun r11 =>
  ret (Sum.inr r11))) (r1, (IntKind.wrap .i64 (r1 + (1 : Int)))))
noncomputable def Af89_slices_DeleteFuncint_int : Ann := (.two .nil (.two .nil (.two (.two .nil (.two (.two .nil .nil) .nil)) (.two (.two .nil (.one (.loop [(5, (.int .i64)), (6, (.int .i64))] [7, 16, 17, 18, 19, 20, 21, 22, 23, 24, 25, 26, 27, 28, 29, 30, 31, 32, 33, 34, 35] (.two (.two .nil (.two .nil .nil)) (.two (.one (.two .nil (.two .nil (.join [(5, (.int .i64))] [30, 31, 32, 33, 34, 35] false (.two (.two .nil .nil) .nil))))) .nil))))) (.two .nil (.two .nil .nil))))))
theorem Cf89_slices_DeleteFuncint_int_ok : Cf89_slices_DeleteFuncint_int.Ok := mkC_ok mixed tysOk zerosOk eqsOk ⟨Sf88_out_1, Sf104_slices_IndexFuncint_int, trivial⟩ trivial
theorem Ef89_slices_DeleteFuncint_int (x : (Sl × Addr)) : evF Cf89_slices_DeleteFuncint_int Tryz.f89 42 (.pair .sl (.clo 88 .adr)) .sl Af89_slices_DeleteFuncint_int x = f89_slices_DeleteFuncint_int x.1 x.2 := by kernel_rfl
theorem Sf89_slices_DeleteFuncint_int : SoundF Tryz.prog 89 ⟨(.pair .sl (.clo 88 .adr)), .sl, fun x => f89_slices_DeleteFuncint_int x.1 x.2⟩ :=
  soundF_of Cf89_slices_DeleteFuncint_int_ok Tryz.func89 (by kernel_rfl) (by kernel_rfl) Ef89_slices_DeleteFuncint_int
noncomputable def Cf67_out : Ctx := mkC Tryz.prog tys zeros eqs [(64, ⟨(.pair .ptr (.int .i64)), .ptr, fun x => f64_of x.1 x.2⟩), (89, ⟨(.pair .sl (.clo 88 .adr)), .sl, fun x => f89_slices_DeleteFuncint_int x.1 x.2⟩)] []
/-- (*palaversched.Sched).out -/
noncomputable def f67_out (x0 : Option Addr) (x1 : Int) : M Unit :=
  bnd (newC 3 [.int .i64 x1]) fun (p1 : Addr) =>
  bnd (ld (.int .i64) p1) fun (v2 : Int) =>
  bnd (f64_of x0 v2) fun (r3 : Option Addr) =>
  bnd (drf r3) fun (p4 : Addr) =>
  bnd (ld (.int .u8) (Addr.add p4 1)) fun (v5 : Int) =>
  bnd (
  cnd (v5 == (1 : Int)) (
  bnd (
  bnd (ordM 67 5 (regionIn 5 Tryz.f67)) fun (o8 : List Nat) =>
  bnd (drf r3) fun (p9 : Addr) =>
  bnd (ld (.int .i64) (Addr.add p9 0)) fun (v10 : Int) =>
  bnd (drf r3) fun (p11 : Addr) =>
  bnd (ld (.int .i64) (Addr.add p11 0)) fun (v12 : Int) =>
  bnd (drf x0) fun (p13 : Addr) =>
  bnd (ixA 17 1 (Addr.add p13 4) v12) fun (p14 : Addr) =>
  bnd (ld .sl p14) fun (v15 : Sl) =>
  bnd (drf x0) fun (p16 : Addr) =>
  bnd (f89_slices_DeleteFuncint_int v15 p1) fun (r17 : Sl) =>
  bnd (
  bnd (chk (.int .i64) (Addr.add p11 0) v12) fun _ =>
  bnd (chk (.int .i64) (Addr.add p9 0) v10) fun _ =>
  ret ()) fun _ =>
  bnd (ixA 17 1 (Addr.add p16 4) v10) fun (p18 : Addr) =>
  bnd (wrs p18 0 [.slice r17.a r17.len r17.cap]) fun _ =>
  bnd (ret ()) fun _ =>
  ret ()) fun (s7 : Unit) =>
  ret ()) (
  bnd (
  cnd (v5 == (3 : Int)) (
  bnd drawM fun _ =>
  bnd (drf x0) fun (p20 : Addr) =>
  bnd (ld .sl (Addr.add p20 3)) fun (v21 : Sl) =>
  bnd (drf r3) fun (p22 : Addr) =>
  bnd (ld (.int .i64) (Addr.add p22 2)) fun (v23 : Int) =>
  bnd (ix 2 v21 (IntKind.wrap .i64 (v23 - (1 : Int)))) fun (p24 : Addr) =>
  bnd (ld .sl (Addr.add p24 1)) fun (v25 : Sl) =>
  bnd (f89_slices_DeleteFuncint_int v25 p1) fun (r26 : Sl) =>
  bnd (wrs (Addr.add p24 1) 0 [.slice r26.a r26.len r26.cap]) fun _ =>
  bnd (drf r3) fun (p27 : Addr) =>
  bnd (wrs (Addr.add p27 2) 0 [.int .i64 (0 : Int)]) fun _ =>
  ret ()) (
  bnd (
  cnd (v5 == (2 : Int)) (
  bnd (drf x0) fun (p29 : Addr) =>
  bnd (wrs (Addr.add p29 1) 0 [.int .i64 (0 : Int)]) fun _ =>
  ret ()) (
  ret ())) fun (s28 : Unit) =>
  ret ())) fun (s19 : Unit) =>
  ret ())) fun (s6 : Unit) =>
  ret ()
noncomputable def Af67_out : Ann := (.two .nil (.two .nil (.two .nil (.two .nil (.one (.two .nil (.join [] [6, 17, 18, 19, 20, 21, 22, 23, 24, 25, 26, 27, 28, 29, 30, 31, 32, 33, 34, 35, 36, 37, 38, 39, 40, 41, 42, 43, 44, 45, 46, 47, 48, 49, 50, 51, 52, 53, 54, 55, 56, 57, 58, 59, 60, 61, 62, 63] false (.two (.join [] [17, 18, 19, 20, 21, 22, 23, 24, 25, 26, 27, 28, 29, 30, 31, 32, 33, 34, 35] false (.ord 67 [(0, 1048574), (0, 1048573), (2, 1048569), (4, 1048563), (8, 1048551), (0, 1048543), (0, 1048511), (64, 1048383), (128, 1048191), (256, 1047807), (32, 1047519), (1024, 1045503), (2560, 1041919), (4096, 1036287), (0, 1032191), (24576, 991231), (1, 983038), (65536, 851967), (196607, 655343), (327679, 229375)] (.o 0 (.o 1 (.o 2 (.o 3 (.o 4 (.o 5 (.o 6 (.o 7 (.o 8 (.o 9 (.o 10 (.o 11 (.o 12 (.o 13 (.o 14 (.o 16 (.o 17 (.o 15 (.o 18 (.o 19 .done)))))))))))))))))))))) (.two .nil (.join [] [6, 38, 39, 40, 41, 42, 43, 44, 45, 46, 47, 48, 49, 50, 51, 52, 53, 54, 55, 56, 57, 58, 59, 60, 61, 62, 63] false (.two (.two .nil (.two .nil .nil)) (.two .nil (.join [] [61, 62, 63] false (.two .nil .nil))))))))))))))
theorem Cf67_out_ok : Cf67_out.Ok := mkC_ok mixed tysOk zerosOk eqsOk ⟨Sf64_of, Sf89_slices_DeleteFuncint_int, trivial⟩ trivial
theorem Ef67_out (x : (Option Addr × Int)) : evF Cf67_out Tryz.f67 64 (.pair .ptr (.int .i64)) (.tup .unit) Af67_out x = f67_out x.1 x.2 := by kernel_rfl
theorem Sf67_out : SoundF Tryz.prog 67 ⟨(.pair .ptr (.int .i64)), (.tup .unit), fun x => f67_out x.1 x.2⟩ :=
  soundF_of Cf67_out_ok Tryz.func67 (by kernel_rfl) (by kernel_rfl) Ef67_out
noncomputable def Bf20_Terminate : Ctx := mkC Tryz.prog tys zeros eqs [(64, ⟨(.pair .ptr (.int .i64)), .ptr, fun x => f64_of x.1 x.2⟩), (66, ⟨(.pair .ptr (.int .i64)), (.int .i64), fun x => f66_alive x.1 x.2⟩), (67, ⟨(.pair .ptr (.int .i64)), (.tup .unit), fun x => f67_out x.1 x.2⟩)] []
noncomputable def Cf20_Terminate : Ctx := Bf20_Terminate.with [(62, ⟨.ptr, (.tup .unit), fun x => f62_runs x⟩)] []
/-- (*palaversched.Sched).Terminate -/
noncomputable def f20_Terminate (x0 : Option Addr) (x1 : Int) : M Int :=
  bnd (f66_alive x0 x1) fun (r1 : Int) =>
  cnd (r1 != (0 : Int)) (
  ret r1) (
  bnd (f67_out x0 x1) fun (r2 : Unit) =>
  bnd (f64_of x0 x1) fun (r3 : Option Addr) =>
  bnd (drf r3) fun (p4 : Addr) =>
  bnd (wrs (Addr.add p4 1) 0 [.int .u8 (5 : Int)]) fun _ =>
  bnd (f62_runs x0) fun _ =>
  ret (0 : Int))
noncomputable def Af20_Terminate : Ann := (.two .nil (.two (.two .nil (.two .nil (.two (.two .nil .nil) .nil))) (.two .dfr (.two .nil (.two .nil (.two .nil .nil))))))
theorem Bf20_Terminate_ok : Bf20_Terminate.Ok := mkC_ok mixed tysOk zerosOk eqsOk ⟨Sf64_of, Sf66_alive, Sf67_out, trivial⟩ trivial
theorem Cf20_Terminate_ok : Cf20_Terminate.Ok := with_ok Bf20_Terminate_ok ⟨SDf62, trivial⟩ trivial
theorem Ef20_Terminate (x : (Option Addr × Int)) : evF Cf20_Terminate Tryz.f20 21 (.pair .ptr (.int .i64)) (.int .i64) Af20_Terminate x = f20_Terminate x.1 x.2 := by kernel_rfl
theorem Sf20_Terminate : SoundF Tryz.prog 20 ⟨(.pair .ptr (.int .i64)), (.int .i64), fun x => f20_Terminate x.1 x.2⟩ :=
  soundF_of Cf20_Terminate_ok Tryz.func20 (by kernel_rfl) (by kernel_rfl) Ef20_Terminate
noncomputable def Bf21_Yield : Ctx := mkC Tryz.prog tys zeros eqs [(63, ⟨(.pair .ptr (.int .i64)), (.tup .unit), fun x => f63_ready x.1 x.2⟩)] []
noncomputable def Cf21_Yield : Ctx := Bf21_Yield.with [(62, ⟨.ptr, (.tup .unit), fun x => f62_runs x⟩)] []
/-- (*palaversched.Sched).Yield -/
noncomputable def f21_Yield (x0 : Option Addr) : M Int :=
  bnd (drf x0) fun (p1 : Addr) =>
  bnd (ld (.int .i64) (Addr.add p1 1)) fun (v2 : Int) =>
  cnd (v2 == (0 : Int)) (
  ret (265 : Int)) (
  bnd (drf x0) fun (p3 : Addr) =>
  bnd (ld (.int .i64) (Addr.add p3 1)) fun (v4 : Int) =>
  bnd (drf x0) fun (p5 : Addr) =>
  bnd (wrs (Addr.add p5 1) 0 [.int .i64 (0 : Int)]) fun _ =>
  bnd (f63_ready x0 v4) fun (r6 : Unit) =>
  bnd (f62_runs x0) fun _ =>
  ret (0 : Int))
noncomputable def Af21_Yield : Ann := (.two .nil (.two (.two .nil (.two (.two .nil .nil) .nil)) (.two .dfr (.two .nil (.two .nil (.two .nil (.two .nil .nil)))))))
theorem Bf21_Yield_ok : Bf21_Yield.Ok := mkC_ok mixed tysOk zerosOk eqsOk ⟨Sf63_ready, trivial⟩ trivial
theorem Cf21_Yield_ok : Cf21_Yield.Ok := with_ok Bf21_Yield_ok ⟨SDf62, trivial⟩ trivial
theorem Ef21_Yield (x : Option Addr) : evF Cf21_Yield Tryz.f21 20 .ptr (.int .i64) Af21_Yield x = f21_Yield x := by kernel_rfl
theorem Sf21_Yield : SoundF Tryz.prog 21 ⟨.ptr, (.int .i64), fun x => f21_Yield x⟩ :=
  soundF_of Cf21_Yield_ok Tryz.func21 (by kernel_rfl) (by kernel_rfl) Ef21_Yield
noncomputable def Cf133_sched_timers_Push : Ctx := mkC Tryz.prog tys zeros eqs [] []
/-- (*palaversched.timers).Push -/
noncomputable def f133_sched_timers_Push (x0 : Option Addr) (x1 : (Int × (Int × Int))) : M Unit :=
  bnd (
  bnd (ordM 133 0 (regionIn 0 Tryz.f133)) fun (o2 : List Nat) =>
  bnd (drf x0) fun (p3 : Addr) =>
  bnd (ld .sl p3) fun (v4 : Sl) =>
  bnd (runV Tryz.prog .sl (Instr.buildSlice 65 1 #[(0, .agg #[.int .i64 x1.1, .int .i64 x1.2.1, .int .i64 x1.2.2])])) fun (v5 : Sl) =>
  bnd (
  bnd (chk .sl p3 v4) fun _ =>
  ret ()) fun _ =>
  bnd (runV Tryz.prog .sl (Builtin.append_ #[65, 65] 65 #[.slice v4.a v4.len v4.cap, .slice v5.a v5.len v5.cap])) fun (v6 : Sl) =>
  bnd (ret ()) fun _ =>
  bnd (drf x0) fun (p7 : Addr) =>
  bnd (wrs p7 0 [.slice v6.a v6.len v6.cap]) fun _ =>
  bnd (ret ()) fun _ =>
  ret ()) fun (s1 : Unit) =>
  ret ()
noncomputable def Af133_sched_timers_Push : Ann := (.join [] [4, 5, 6, 7, 8, 9, 10, 11, 12] false (.ord 133 [(0, 1022), (0, 1021), (2, 1017), (4, 1011), (0, 1007), (16, 975), (32, 927), (72, 823), (255, 766), (511, 127)] (.o 0 (.o 1 (.o 2 (.o 3 (.o 4 (.o 5 (.o 6 (.o 7 (.o 8 (.o 9 .done))))))))))))
theorem Cf133_sched_timers_Push_ok : Cf133_sched_timers_Push.Ok := mkC_ok mixed tysOk zerosOk eqsOk trivial trivial
theorem Ef133_sched_timers_Push (x : (Option Addr × (Int × (Int × Int)))) : evF Cf133_sched_timers_Push Tryz.f133 13 (.pair .ptr (.ifc 79 (.agg (.pair (.int .i64) (.pair (.int .i64) (.int .i64)))))) (.tup .unit) Af133_sched_timers_Push x = f133_sched_timers_Push x.1 x.2 := by kernel_rfl
theorem Sf133_sched_timers_Push : SoundF Tryz.prog 133 ⟨(.pair .ptr (.ifc 79 (.agg (.pair (.int .i64) (.pair (.int .i64) (.int .i64)))))), (.tup .unit), fun x => f133_sched_timers_Push x.1 x.2⟩ :=
  soundF_of Cf133_sched_timers_Push_ok Tryz.func133 (by kernel_rfl) (by kernel_rfl) Ef133_sched_timers_Push
noncomputable def Cf129_sched_timers_Len : Ctx := mkC Tryz.prog tys zeros eqs [] []
/-- (palaversched.timers).Len -/
noncomputable def f129_sched_timers_Len (x0 : Sl) : M Int :=
  ret (x0.len : Int)
noncomputable def Af129_sched_timers_Len : Ann := (.two .nil (.two .nil .nil))
theorem Cf129_sched_timers_Len_ok : Cf129_sched_timers_Len.Ok := mkC_ok mixed tysOk zerosOk eqsOk trivial trivial
theorem Ef129_sched_timers_Len (x : Sl) : evF Cf129_sched_timers_Len Tryz.f129 5 .sl (.int .i64) Af129_sched_timers_Len x = f129_sched_timers_Len x := by kernel_rfl
theorem Sf129_sched_timers_Len : SoundF Tryz.prog 129 ⟨.sl, (.int .i64), fun x => f129_sched_timers_Len x⟩ :=
  soundF_of Cf129_sched_timers_Len_ok Tryz.func129 (by kernel_rfl) (by kernel_rfl) Ef129_sched_timers_Len
noncomputable def Cf130_sched_timers_Less : Ctx := mkC Tryz.prog tys zeros eqs [] []
/-- (palaversched.timers).Less -/
noncomputable def f130_sched_timers_Less (x0 : Sl) (x1 : Int) (x2 : Int) : M Bool :=
  bnd drawM fun _ =>
  bnd (ix 3 x0 x1) fun (p1 : Addr) =>
  bnd (ld (.int .i64) (Addr.add p1 0)) fun (v2 : Int) =>
  bnd (ix 3 x0 x2) fun (p3 : Addr) =>
  bnd (ld (.int .i64) (Addr.add p3 0)) fun (v4 : Int) =>
  cnd (v2 != v4) (
  bnd drawM fun _ =>
  bnd (ix 3 x0 x1) fun (p5 : Addr) =>
  bnd (ld (.int .i64) (Addr.add p5 0)) fun (v6 : Int) =>
  bnd (ix 3 x0 x2) fun (p7 : Addr) =>
  bnd (ld (.int .i64) (Addr.add p7 0)) fun (v8 : Int) =>
  ret (decide (v6 < v8))) (
  bnd drawM fun _ =>
  bnd (ix 3 x0 x1) fun (p9 : Addr) =>
  bnd (ld (.int .i64) (Addr.add p9 1)) fun (v10 : Int) =>
  bnd (ix 3 x0 x2) fun (p11 : Addr) =>
  bnd (ld (.int .i64) (Addr.add p11 1)) fun (v12 : Int) =>
  ret (decide (v10 < v12)))
noncomputable def Af130_sched_timers_Less : Ann := (.two .nil (.two (.two .nil (.two (.two .nil .nil) .nil)) (.two .nil .nil)))
theorem Cf130_sched_timers_Less_ok : Cf130_sched_timers_Less.Ok := mkC_ok mixed tysOk zerosOk eqsOk trivial trivial
theorem Ef130_sched_timers_Less (x : (Sl × (Int × Int))) : evF Cf130_sched_timers_Less Tryz.f130 40 (.pair .sl (.pair (.int .i64) (.int .i64))) .bool Af130_sched_timers_Less x = f130_sched_timers_Less x.1 x.2.1 x.2.2 := by kernel_rfl
theorem Sf130_sched_timers_Less : SoundF Tryz.prog 130 ⟨(.pair .sl (.pair (.int .i64) (.int .i64))), .bool, fun x => f130_sched_timers_Less x.1 x.2.1 x.2.2⟩ :=
  soundF_of Cf130_sched_timers_Less_ok Tryz.func130 (by kernel_rfl) (by kernel_rfl) Ef130_sched_timers_Less
noncomputable def Cf131_sched_timers_Swap : Ctx := mkC Tryz.prog tys zeros eqs [] []
/-- (palaversched.timers).Swap -/
noncomputable def f131_sched_timers_Swap (x0 : Sl) (x1 : Int) (x2 : Int) : M Unit :=
  bnd (
  bnd (ordM 131 0 (regionIn 0 Tryz.f131)) fun (o2 : List Nat) =>
  bnd (ix 3 x0 x2) fun (p3 : Addr) =>
  bnd (ld (.agg (.pair (.int .i64) (.pair (.int .i64) (.int .i64)))) p3) fun (v4 : (Int × (Int × Int))) =>
  bnd (ix 3 x0 x1) fun (p5 : Addr) =>
  bnd (ld (.agg (.pair (.int .i64) (.pair (.int .i64) (.int .i64)))) p5) fun (v6 : (Int × (Int × Int))) =>
  bnd (ix 3 x0 x1) fun (p7 : Addr) =>
  bnd (wrs p7 0 [.int .i64 v4.1, .int .i64 v4.2.1, .int .i64 v4.2.2]) fun _ =>
  bnd (ret ()) fun _ =>
  bnd (ix 3 x0 x2) fun (p8 : Addr) =>
  bnd (wrs p8 0 [.int .i64 v6.1, .int .i64 v6.2.1, .int .i64 v6.2.2]) fun _ =>
  bnd (ret ()) fun _ =>
  ret ()) fun (s1 : Unit) =>
  ret ()
noncomputable def Af131_sched_timers_Swap : Ann := (.join [] [6, 7, 8, 9, 10, 11, 12, 13, 14, 15, 16, 17, 18, 19] false (.ord 131 [(0, 65534), (0, 65533), (0, 65531), (0, 65527), (0, 65519), (0, 65503), (48, 65423), (64, 65343), (0, 65279), (0, 65023), (768, 63743), (1024, 62463), (2291, 61436), (6387, 53119), (16383, 49139), (32767, 14335)] (.o 0 (.o 1 (.o 2 (.o 3 (.o 4 (.o 5 (.o 6 (.o 7 (.o 8 (.o 9 (.o 10 (.o 11 (.o 12 (.o 13 (.o 14 (.o 15 .done))))))))))))))))))
theorem Cf131_sched_timers_Swap_ok : Cf131_sched_timers_Swap.Ok := mkC_ok mixed tysOk zerosOk eqsOk trivial trivial
theorem Ef131_sched_timers_Swap (x : (Sl × (Int × Int))) : evF Cf131_sched_timers_Swap Tryz.f131 20 (.pair .sl (.pair (.int .i64) (.int .i64))) (.tup .unit) Af131_sched_timers_Swap x = f131_sched_timers_Swap x.1 x.2.1 x.2.2 := by kernel_rfl
theorem Sf131_sched_timers_Swap : SoundF Tryz.prog 131 ⟨(.pair .sl (.pair (.int .i64) (.int .i64))), (.tup .unit), fun x => f131_sched_timers_Swap x.1 x.2.1 x.2.2⟩ :=
  soundF_of Cf131_sched_timers_Swap_ok Tryz.func131 (by kernel_rfl) (by kernel_rfl) Ef131_sched_timers_Swap
noncomputable def Cf105_heap_up : Ctx := mkC Tryz.prog tys zeros eqs [(130, ⟨(.pair .sl (.pair (.int .i64) (.int .i64))), .bool, fun x => f130_sched_timers_Less x.1 x.2.1 x.2.2⟩), (131, ⟨(.pair .sl (.pair (.int .i64) (.int .i64))), (.tup .unit), fun x => f131_sched_timers_Swap x.1 x.2.1 x.2.2⟩)] []
/-- containerheap.up -/
noncomputable def f105_heap_up (x0 : Option Addr) (x1 : Int) : M Unit :=
  loopM (fun (s1 : Int) =>
  bnd (
  cnd ((IntKind.wrap .i64 (Int.tdiv (IntKind.wrap .i64 (s1 - (1 : Int))) (2 : Int))) == s1) (
  ret true) (
  bnd (drf x0) fun (p2 : Addr) =>
  bnd (ld .sl p2) fun (v3 : Sl) =>
  bnd (f130_sched_timers_Less v3 s1 (IntKind.wrap .i64 (Int.tdiv (IntKind.wrap .i64 (s1 - (1 : Int))) (2 : Int)))) fun (r4 : Bool) =>
  ret (!r4))) fun (b5 : Bool) =>
  cnd b5 (
  ret (Sum.inr ())) (
  bnd (drf x0) fun (p6 : Addr) =>
  bnd (ld .sl p6) fun (v7 : Sl) =>
  bnd (f131_sched_timers_Swap v7 (IntKind.wrap .i64 (Int.tdiv (IntKind.wrap .i64 (s1 - (1 : Int))) (2 : Int))) s1) fun (r8 : Unit) =>
  ret (Sum.inl (IntKind.wrap .i64 (Int.tdiv (IntKind.wrap .i64 (s1 - (1 : Int))) (2 : Int)))))) x1
noncomputable def Af105_heap_up : Ann := (.one (.loop [(1, (.int .i64))] [4, 5, 6, 7, 8, 9, 10, 11, 12, 13, 14, 15, 16, 17, 18, 19, 20, 21, 22] (.one (.two .nil (.two (.two .nil (.two .nil .nil)) (.two .nil .nil))))))
theorem Cf105_heap_up_ok : Cf105_heap_up.Ok := mkC_ok mixed tysOk zerosOk eqsOk ⟨Sf130_sched_timers_Less, Sf131_sched_timers_Swap, trivial⟩ trivial
theorem Ef105_heap_up (x : (Option Addr × Int)) : evF Cf105_heap_up Tryz.f105 23 (.pair (.ifc 103 .ptr) (.int .i64)) (.tup .unit) Af105_heap_up x = f105_heap_up x.1 x.2 := by kernel_rfl
theorem Sf105_heap_up : SoundF Tryz.prog 105 ⟨(.pair (.ifc 103 .ptr) (.int .i64)), (.tup .unit), fun x => f105_heap_up x.1 x.2⟩ :=
  soundF_of Cf105_heap_up_ok Tryz.func105 (by kernel_rfl) (by kernel_rfl) Ef105_heap_up
noncomputable def Cf90_heap_Push : Ctx := mkC Tryz.prog tys zeros eqs [(105, ⟨(.pair (.ifc 103 .ptr) (.int .i64)), (.tup .unit), fun x => f105_heap_up x.1 x.2⟩), (129, ⟨.sl, (.int .i64), fun x => f129_sched_timers_Len x⟩), (133, ⟨(.pair .ptr (.ifc 79 (.agg (.pair (.int .i64) (.pair (.int .i64) (.int .i64)))))), (.tup .unit), fun x => f133_sched_timers_Push x.1 x.2⟩)] []
/-- containerheap.Push -/
noncomputable def f90_heap_Push (x0 : Option Addr) (x1 : (Int × (Int × Int))) : M Unit :=
  bnd (f133_sched_timers_Push x0 x1) fun (r1 : Unit) =>
  bnd (drf x0) fun (p2 : Addr) =>
  bnd (ld .sl p2) fun (v3 : Sl) =>
  bnd (f129_sched_timers_Len v3) fun (r4 : Int) =>
  bnd (f105_heap_up x0 (IntKind.wrap .i64 (r4 - (1 : Int)))) fun (r5 : Unit) =>
  ret ()
noncomputable def Af90_heap_Push : Ann := (.two .nil .nil)
theorem Cf90_heap_Push_ok : Cf90_heap_Push.Ok := mkC_ok mixed tysOk zerosOk eqsOk ⟨Sf105_heap_up, Sf129_sched_timers_Len, Sf133_sched_timers_Push, trivial⟩ trivial
theorem Ef90_heap_Push (x : (Option Addr × (Int × (Int × Int)))) : evF Cf90_heap_Push Tryz.f90 12 (.pair (.ifc 103 .ptr) (.ifc 79 (.agg (.pair (.int .i64) (.pair (.int .i64) (.int .i64)))))) (.tup .unit) Af90_heap_Push x = f90_heap_Push x.1 x.2 := by kernel_rfl
theorem Sf90_heap_Push : SoundF Tryz.prog 90 ⟨(.pair (.ifc 103 .ptr) (.ifc 79 (.agg (.pair (.int .i64) (.pair (.int .i64) (.int .i64)))))), (.tup .unit), fun x => f90_heap_Push x.1 x.2⟩ :=
  soundF_of Cf90_heap_Push_ok Tryz.func90 (by kernel_rfl) (by kernel_rfl) Ef90_heap_Push
noncomputable def Cf68_later : Ctx := mkC Tryz.prog tys zeros eqs [(90, ⟨(.pair (.ifc 103 .ptr) (.ifc 79 (.agg (.pair (.int .i64) (.pair (.int .i64) (.int .i64)))))), (.tup .unit), fun x => f90_heap_Push x.1 x.2⟩)] []
/-- (*palaversched.Sched).later -/
noncomputable def f68_later (x0 : Option Addr) (x1 : Int) (x2 : Int) : M Unit :=
  bnd (drf x0) fun (p1 : Addr) =>
  bnd (ld (.int .i64) (Addr.add p1 22)) fun (v2 : Int) =>
  bnd (drf x0) fun (p3 : Addr) =>
  bnd (wrs (Addr.add p3 22) 0 [.int .i64 (IntKind.wrap .i64 (v2 + (1 : Int)))]) fun _ =>
  bnd (
  bnd (ordM 68 1 (regionIn 1 Tryz.f68)) fun (o5 : List Nat) =>
  bnd (drf x0) fun (p6 : Addr) =>
  bnd (drf x0) fun (p7 : Addr) =>
  bnd (ld (.int .i64) (Addr.add p7 22)) fun (v8 : Int) =>
  bnd (f90_heap_Push (some (Addr.add p6 21)) (x1, v8, x2)) fun (r9 : Unit) =>
  bnd (
  bnd (chk (.int .i64) (Addr.add p7 22) v8) fun _ =>
  ret ()) fun _ =>
  ret ()) fun (s4 : Unit) =>
  ret ()
noncomputable def Af68_later : Ann := (.two .nil (.join [] [13, 14, 15, 16, 17, 18, 19, 20, 21, 22, 23, 24, 25] false (.ord 68 [(0, 8190), (1, 8188), (2, 8185), (4, 8179), (0, 8175), (0, 8159), (32, 8095), (64, 7999), (128, 7807), (0, 7679), (784, 6383), (1024, 5119), (2056, 2039)] (.o 0 (.o 1 (.o 2 (.o 3 (.o 4 (.o 5 (.o 6 (.o 7 (.o 8 (.o 9 (.o 10 (.o 11 (.o 12 .done))))))))))))))))
theorem Cf68_later_ok : Cf68_later.Ok := mkC_ok mixed tysOk zerosOk eqsOk ⟨Sf90_heap_Push, trivial⟩ trivial
theorem Ef68_later (x : (Option Addr × (Int × Int))) : evF Cf68_later Tryz.f68 26 (.pair .ptr (.pair (.int .i64) (.int .i64))) (.tup .unit) Af68_later x = f68_later x.1 x.2.1 x.2.2 := by kernel_rfl
theorem Sf68_later : SoundF Tryz.prog 68 ⟨(.pair .ptr (.pair (.int .i64) (.int .i64))), (.tup .unit), fun x => f68_later x.1 x.2.1 x.2.2⟩ :=
  soundF_of Cf68_later_ok Tryz.func68 (by kernel_rfl) (by kernel_rfl) Ef68_later
noncomputable def Cf22_At : Ctx := mkC Tryz.prog tys zeros eqs [(52, ⟨(.pair .ptr (.int .i64)), .ptr, fun x => f52_sem x.1 x.2⟩), (68, ⟨(.pair .ptr (.pair (.int .i64) (.int .i64))), (.tup .unit), fun x => f68_later x.1 x.2.1 x.2.2⟩)] []
/-- (*palaversched.Sched).At -/
noncomputable def f22_At (x0 : Option Addr) (x1 : Int) (x2 : Int) : M Int :=
  bnd (f52_sem x0 x1) fun (r1 : Option Addr) =>
  cnd (Option.isNone r1) (
  ret (261 : Int)) (
  cnd (cond (decide (x2 < (0 : Int))) true (decide (x2 > (1152921504606846976 : Int)))) (
  ret (1 : Int)) (
  bnd (drf x0) fun (p2 : Addr) =>
  bnd (ld .sl (Addr.add p2 21)) fun (v3 : Sl) =>
  cnd (decide ((v3.len : Int) ≥ (4096 : Int))) (
  ret (264 : Int)) (
  bnd (f68_later x0 x2 x1) fun (r4 : Unit) =>
  ret (0 : Int))))
noncomputable def Af22_At : Ann := (.two .nil (.two (.one (.two .nil (.two (.two .nil .nil) (.two .nil (.two (.two .nil .nil) (.two .nil (.two (.two .nil .nil) .nil))))))) (.two .nil (.two .nil .nil))))
theorem Cf22_At_ok : Cf22_At.Ok := mkC_ok mixed tysOk zerosOk eqsOk ⟨Sf52_sem, Sf68_later, trivial⟩ trivial
theorem Ef22_At (x : (Option Addr × (Int × Int))) : evF Cf22_At Tryz.f22 30 (.pair .ptr (.pair (.int .i64) (.int .i64))) (.int .i64) Af22_At x = f22_At x.1 x.2.1 x.2.2 := by kernel_rfl
theorem Sf22_At : SoundF Tryz.prog 22 ⟨(.pair .ptr (.pair (.int .i64) (.int .i64))), (.int .i64), fun x => f22_At x.1 x.2.1 x.2.2⟩ :=
  soundF_of Cf22_At_ok Tryz.func22 (by kernel_rfl) (by kernel_rfl) Ef22_At
noncomputable def Cf132_sched_timers_Pop : Ctx := mkC Tryz.prog tys zeros eqs [] []
/-- (*palaversched.timers).Pop -/
noncomputable def f132_sched_timers_Pop (x0 : Option Addr) : M (Int × (Int × Int)) :=
  bnd (drf x0) fun (p1 : Addr) =>
  bnd (ld .sl p1) fun (v2 : Sl) =>
  bnd (drf x0) fun (p3 : Addr) =>
  bnd (ld .sl p3) fun (v4 : Sl) =>
  bnd (ix 3 v4 (IntKind.wrap .i64 ((v2.len : Int) - (1 : Int)))) fun (p5 : Addr) =>
  bnd (ld (.agg (.pair (.int .i64) (.pair (.int .i64) (.int .i64)))) p5) fun (v6 : (Int × (Int × Int))) =>
  bnd (newC 79 [.int .i64 (0 : Int), .int .i64 (0 : Int), .int .i64 (0 : Int)]) fun (p7 : Addr) =>
  bnd (wrs p7 0 [.int .i64 v6.1, .int .i64 v6.2.1, .int .i64 v6.2.2]) fun _ =>
  bnd (drf x0) fun (p8 : Addr) =>
  bnd (ld .sl p8) fun (v9 : Sl) =>
  bnd (slc 3 v9 none (some (IntKind.wrap .i64 ((v2.len : Int) - (1 : Int)))) (some (IntKind.wrap .i64 ((v2.len : Int) - (1 : Int))))) fun (v10 : Sl) =>
  bnd (drf x0) fun (p11 : Addr) =>
  bnd (wrs p11 0 [.slice v10.a v10.len v10.cap]) fun _ =>
  bnd (ld (.agg (.pair (.int .i64) (.pair (.int .i64) (.int .i64)))) p7) fun (v12 : (Int × (Int × Int))) =>
  ret v12
noncomputable def Af132_sched_timers_Pop : Ann := (.two .nil (.two .nil (.two .nil (.two .nil (.two .nil .nil)))))
theorem Cf132_sched_timers_Pop_ok : Cf132_sched_timers_Pop.Ok := mkC_ok mixed tysOk zerosOk eqsOk trivial trivial
theorem Ef132_sched_timers_Pop (x : Option Addr) : evF Cf132_sched_timers_Pop Tryz.f132 26 .ptr (.ifc 79 (.agg (.pair (.int .i64) (.pair (.int .i64) (.int .i64))))) Af132_sched_timers_Pop x = f132_sched_timers_Pop x := by kernel_rfl
theorem Sf132_sched_timers_Pop : SoundF Tryz.prog 132 ⟨.ptr, (.ifc 79 (.agg (.pair (.int .i64) (.pair (.int .i64) (.int .i64))))), fun x => f132_sched_timers_Pop x⟩ :=
  soundF_of Cf132_sched_timers_Pop_ok Tryz.func132 (by kernel_rfl) (by kernel_rfl) Ef132_sched_timers_Pop
noncomputable def Cf91_heap_down : Ctx := mkC Tryz.prog tys zeros eqs [(130, ⟨(.pair .sl (.pair (.int .i64) (.int .i64))), .bool, fun x => f130_sched_timers_Less x.1 x.2.1 x.2.2⟩), (131, ⟨(.pair .sl (.pair (.int .i64) (.int .i64))), (.tup .unit), fun x => f131_sched_timers_Swap x.1 x.2.1 x.2.2⟩)] []
/-- containerheap.down -/
noncomputable def f91_heap_down (x0 : Option Addr) (x1 : Int) (x2 : Int) : M Bool :=
  bnd (
  loopM (fun (s2 : Int) =>
  cnd (cond (decide ((IntKind.wrap .i64 ((IntKind.wrap .i64 ((2 : Int) * s2)) + (1 : Int))) ≥ x2)) true (decide ((IntKind.wrap .i64 ((IntKind.wrap .i64 ((2 : Int) * s2)) + (1 : Int))) < (0 : Int)))) (
  ret (Sum.inr s2)) (
  bnd (
  cnd (decide ((IntKind.wrap .i64 ((IntKind.wrap .i64 ((IntKind.wrap .i64 ((2 : Int) * s2)) + (1 : Int))) + (1 : Int))) < x2)) (
  bnd (drf x0) fun (p3 : Addr) =>
  bnd (ld .sl p3) fun (v4 : Sl) =>
  bnd (f130_sched_timers_Less v4 (IntKind.wrap .i64 ((IntKind.wrap .i64 ((IntKind.wrap .i64 ((2 : Int) * s2)) + (1 : Int))) + (1 : Int))) (IntKind.wrap .i64 ((IntKind.wrap .i64 ((2 : Int) * s2)) + (1 : Int)))) fun (r5 : Bool) =>
  ret r5) (
  ret false)) fun (b6 : Bool) =>
  bnd (
  cnd b6 (
  ret (IntKind.wrap .i64 ((IntKind.wrap .i64 ((IntKind.wrap .i64 ((2 : Int) * s2)) + (1 : Int))) + (1 : Int)))) (
  ret (IntKind.wrap .i64 ((IntKind.wrap .i64 ((2 : Int) * s2)) + (1 : Int))))) fun (s7 : Int) =>
  bnd (drf x0) fun (p8 : Addr) =>
  bnd (ld .sl p8) fun (v9 : Sl) =>
  bnd (f130_sched_timers_Less v9 s7 s2) fun (r10 : Bool) =>
  cnd (!r10) (
  ret (Sum.inr s2)) (
  bnd (drf x0) fun (p11 : Addr) =>
  bnd (ld .sl p11) fun (v12 : Sl) =>
  bnd (f131_sched_timers_Swap v12 s2 s7) fun (r13 : Unit) =>
  ret (Sum.inl s7)))) x1) fun (s1 : Int) =>
  ret (decide (s1 > x1))
noncomputable def Af91_heap_down : Ann := (.two .nil (.two .nil (.two (.join [(7, (.int .i64))] [8, 9, 10, 12, 13, 14, 15, 16, 17, 18, 19, 20, 21, 22, 23, 24, 25, 26, 27, 28, 29, 30, 31, 32, 33, 34, 35, 36, 37, 38, 39, 40, 41, 42, 43, 44] false (.one (.loop [(7, (.int .i64))] [8, 9, 10, 12, 13, 14, 15, 16, 17, 18, 19, 20, 21, 22, 23, 24, 25, 26, 27, 28, 29, 30, 31, 32, 33, 34, 35, 36, 37, 38, 39, 40, 41, 42, 43, 44] (.one (.two .nil (.two (.two .nil (.two .nil .nil)) (.two .nil (.two (.two .nil (.two .nil (.join [(9, (.int .i64))] [34] false (.two .nil .nil)))) (.two (.two .nil (.two .nil .nil)) (.two .nil .nil)))))))))) (.two .nil .nil))))
theorem Cf91_heap_down_ok : Cf91_heap_down.Ok := mkC_ok mixed tysOk zerosOk eqsOk ⟨Sf130_sched_timers_Less, Sf131_sched_timers_Swap, trivial⟩ trivial
theorem Ef91_heap_down (x : (Option Addr × (Int × Int))) : evF Cf91_heap_down Tryz.f91 48 (.pair (.ifc 103 .ptr) (.pair (.int .i64) (.int .i64))) .bool Af91_heap_down x = f91_heap_down x.1 x.2.1 x.2.2 := by kernel_rfl
theorem Sf91_heap_down : SoundF Tryz.prog 91 ⟨(.pair (.ifc 103 .ptr) (.pair (.int .i64) (.int .i64))), .bool, fun x => f91_heap_down x.1 x.2.1 x.2.2⟩ :=
  soundF_of Cf91_heap_down_ok Tryz.func91 (by kernel_rfl) (by kernel_rfl) Ef91_heap_down
noncomputable def Cf69_heap_Pop : Ctx := mkC Tryz.prog tys zeros eqs [(91, ⟨(.pair (.ifc 103 .ptr) (.pair (.int .i64) (.int .i64))), .bool, fun x => f91_heap_down x.1 x.2.1 x.2.2⟩), (129, ⟨.sl, (.int .i64), fun x => f129_sched_timers_Len x⟩), (131, ⟨(.pair .sl (.pair (.int .i64) (.int .i64))), (.tup .unit), fun x => f131_sched_timers_Swap x.1 x.2.1 x.2.2⟩), (132, ⟨.ptr, (.ifc 79 (.agg (.pair (.int .i64) (.pair (.int .i64) (.int .i64))))), fun x => f132_sched_timers_Pop x⟩)] []
/-- containerheap.Pop -/
noncomputable def f69_heap_Pop (x0 : Option Addr) : M (Int × (Int × Int)) :=
  bnd (drf x0) fun (p1 : Addr) =>
  bnd (ld .sl p1) fun (v2 : Sl) =>
  bnd (f129_sched_timers_Len v2) fun (r3 : Int) =>
  bnd (drf x0) fun (p4 : Addr) =>
  bnd (ld .sl p4) fun (v5 : Sl) =>
  bnd (f131_sched_timers_Swap v5 (0 : Int) (IntKind.wrap .i64 (r3 - (1 : Int)))) fun (r6 : Unit) =>
  bnd (f91_heap_down x0 (0 : Int) (IntKind.wrap .i64 (r3 - (1 : Int)))) fun (r7 : Bool) =>
  bnd (f132_sched_timers_Pop x0) fun (r8 : (Int × (Int × Int))) =>
  ret r8
noncomputable def Af69_heap_Pop : Ann := (.two .nil (.two .nil (.two .nil (.two .nil (.two .nil .nil)))))
theorem Cf69_heap_Pop_ok : Cf69_heap_Pop.Ok := mkC_ok mixed tysOk zerosOk eqsOk ⟨Sf91_heap_down, Sf129_sched_timers_Len, Sf131_sched_timers_Swap, Sf132_sched_timers_Pop, trivial⟩ trivial
theorem Ef69_heap_Pop (x : Option Addr) : evF Cf69_heap_Pop Tryz.f69 15 (.ifc 103 .ptr) (.ifc 79 (.agg (.pair (.int .i64) (.pair (.int .i64) (.int .i64))))) Af69_heap_Pop x = f69_heap_Pop x := by kernel_rfl
theorem Sf69_heap_Pop : SoundF Tryz.prog 69 ⟨(.ifc 103 .ptr), (.ifc 79 (.agg (.pair (.int .i64) (.pair (.int .i64) (.int .i64))))), fun x => f69_heap_Pop x⟩ :=
  soundF_of Cf69_heap_Pop_ok Tryz.func69 (by kernel_rfl) (by kernel_rfl) Ef69_heap_Pop
noncomputable def Bf23_Tick : Ctx := mkC Tryz.prog tys zeros eqs [(65, ⟨(.pair .ptr (.int .i64)), (.int .i64), fun x => f65_signal x.1 x.2⟩), (69, ⟨(.ifc 103 .ptr), (.ifc 79 (.agg (.pair (.int .i64) (.pair (.int .i64) (.int .i64))))), fun x => f69_heap_Pop x⟩)] []
noncomputable def Cf23_Tick : Ctx := Bf23_Tick.with [(62, ⟨.ptr, (.tup .unit), fun x => f62_runs x⟩)] []
/-- (*palaversched.Sched).Tick -/
noncomputable def f23_Tick (x0 : Option Addr) (x1 : Int) : M (Int × Int) :=
  bnd (drf x0) fun (p1 : Addr) =>
  bnd (ld (.int .i64) (Addr.add p1 0)) fun (v2 : Int) =>
  cnd (cond (decide (x1 < v2)) true (decide (x1 > (1152921504606846976 : Int)))) (
  ret ((0 : Int), (1 : Int))) (
  bnd (drf x0) fun (p3 : Addr) =>
  bnd (wrs (Addr.add p3 0) 0 [.int .i64 x1]) fun _ =>
  loopM (fun (s4 : Int) =>
  bnd (drf x0) fun (p5 : Addr) =>
  bnd (ld .sl (Addr.add p5 21)) fun (v6 : Sl) =>
  bnd (
  cnd (decide ((v6.len : Int) > (0 : Int))) (
  bnd (drf x0) fun (p7 : Addr) =>
  bnd (ld .sl (Addr.add p7 21)) fun (v8 : Sl) =>
  bnd (ix 3 v8 (0 : Int)) fun (p9 : Addr) =>
  bnd (ld (.int .i64) (Addr.add p9 0)) fun (v10 : Int) =>
  ret (decide (v10 ≤ x1))) (
  ret false)) fun (b11 : Bool) =>
  cnd b11 (
  bnd (drf x0) fun (p12 : Addr) =>
  bnd (f69_heap_Pop (some (Addr.add p12 21))) fun (r13 : (Int × (Int × Int))) =>
  bnd (f65_signal x0 r13.2.2) fun (r14 : Int) =>
  ret (Sum.inl (IntKind.wrap .i64 (s4 + (1 : Int))))) (
  bnd (
  bnd (f62_runs x0) fun _ =>
  ret (s4, (0 : Int))) fun r15 =>
  ret (Sum.inr r15))) (0 : Int))
noncomputable def Af23_Tick : Ann := (.two .nil (.two (.two .nil (.two (.two .nil .nil) .nil)) (.two .dfr (.two .nil (.two (.one (.loop [(4, (.int .i64))] [21, 22, 23, 24, 25, 26, 27, 28, 29, 30, 31, 32, 33, 34, 35, 36, 37, 38, 39, 40, 41, 42, 43, 44, 45, 46, 47, 48] (.two (.two .nil (.two .nil .nil)) (.one (.two .nil .nil))))) (.two .nil .nil))))))
theorem Bf23_Tick_ok : Bf23_Tick.Ok := mkC_ok mixed tysOk zerosOk eqsOk ⟨Sf65_signal, Sf69_heap_Pop, trivial⟩ trivial
theorem Cf23_Tick_ok : Cf23_Tick.Ok := with_ok Bf23_Tick_ok ⟨SDf62, trivial⟩ trivial
theorem Ef23_Tick (x : (Option Addr × Int)) : evF Cf23_Tick Tryz.f23 50 (.pair .ptr (.int .i64)) (.tup (.pair (.int .i64) (.int .i64))) Af23_Tick x = f23_Tick x.1 x.2 := by kernel_rfl
theorem Sf23_Tick : SoundF Tryz.prog 23 ⟨(.pair .ptr (.int .i64)), (.tup (.pair (.int .i64) (.int .i64))), fun x => f23_Tick x.1 x.2⟩ :=
  soundF_of Cf23_Tick_ok Tryz.func23 (by kernel_rfl) (by kernel_rfl) Ef23_Tick
noncomputable def Cf14_Waiting : Ctx := mkC Tryz.prog tys zeros eqs [(52, ⟨(.pair .ptr (.int .i64)), .ptr, fun x => f52_sem x.1 x.2⟩), (53, ⟨.sl, .sl, fun x => f53_slices_Cloneint_int x⟩)] []
/-- (*palaversched.Sched).Waiting -/
noncomputable def f14_Waiting (x0 : Option Addr) (x1 : Int) : M (Sl × (Int × Int)) :=
  bnd (f52_sem x0 x1) fun (r1 : Option Addr) =>
  cnd (Option.isNone r1) (
  ret ((Sl.mk none 0 0), (0 : Int), (261 : Int))) (
  bnd (
  bnd (ordM 14 4 (regionIn 4 Tryz.f14)) fun (o3 : List Nat) =>
  bnd (drf r1) fun (p4 : Addr) =>
  bnd (ld .sl (Addr.add p4 1)) fun (v5 : Sl) =>
  bnd (drf r1) fun (p6 : Addr) =>
  bnd (ld (.int .i64) (Addr.add p6 0)) fun (v7 : Int) =>
  bnd (f53_slices_Cloneint_int v5) fun (r8 : Sl) =>
  bnd (
  bnd (chk (.int .i64) (Addr.add p6 0) v7) fun _ =>
  ret ()) fun _ =>
  ret (r8, v7, (0 : Int))) fun (s2 : (Sl × (Int × Int))) =>
  ret (s2.1, s2.2.1, s2.2.2))
noncomputable def Af14_Waiting : Ann := (.two .nil (.two .nil (.two (.two .nil (.two (.two .nil .nil) .nil)) (.two (.join [(4, .sl), (5, (.int .i64)), (6, (.int .i64))] [13, 14, 15, 16, 17, 18, 19, 20, 21] false (.ord 14 [(0, 4094), (1, 4092), (2, 4089), (4, 4083), (8, 4071), (0, 4063), (32, 3999), (64, 3903), (128, 3711), (31, 3567), (1023, 2815), (2047, 2047)] (.o 0 (.o 1 (.o 2 (.o 3 (.o 5 (.o 6 (.o 7 (.o 8 (.o 4 (.o 9 (.o 10 (.o 11 .done)))))))))))))) .nil))))
theorem Cf14_Waiting_ok : Cf14_Waiting.Ok := mkC_ok mixed tysOk zerosOk eqsOk ⟨Sf52_sem, Sf53_slices_Cloneint_int, trivial⟩ trivial
theorem Ef14_Waiting (x : (Option Addr × Int)) : evF Cf14_Waiting Tryz.f14 22 (.pair .ptr (.int .i64)) (.tup (.pair .sl (.pair (.int .i64) (.int .i64)))) Af14_Waiting x = f14_Waiting x.1 x.2 := by kernel_rfl
theorem Sf14_Waiting : SoundF Tryz.prog 14 ⟨(.pair .ptr (.int .i64)), (.tup (.pair .sl (.pair (.int .i64) (.int .i64)))), fun x => f14_Waiting x.1 x.2⟩ :=
  soundF_of Cf14_Waiting_ok Tryz.func14 (by kernel_rfl) (by kernel_rfl) Ef14_Waiting
noncomputable def Bf24_Resume : Ctx := mkC Tryz.prog tys zeros eqs [(63, ⟨(.pair .ptr (.int .i64)), (.tup .unit), fun x => f63_ready x.1 x.2⟩), (64, ⟨(.pair .ptr (.int .i64)), .ptr, fun x => f64_of x.1 x.2⟩), (66, ⟨(.pair .ptr (.int .i64)), (.int .i64), fun x => f66_alive x.1 x.2⟩)] []
noncomputable def Cf24_Resume : Ctx := Bf24_Resume.with [(62, ⟨.ptr, (.tup .unit), fun x => f62_runs x⟩)] []
/-- (*palaversched.Sched).Resume -/
noncomputable def f24_Resume (x0 : Option Addr) (x1 : Int) : M Int :=
  bnd (f66_alive x0 x1) fun (r1 : Int) =>
  cnd (r1 != (0 : Int)) (
  ret r1) (
  bnd (f64_of x0 x1) fun (r2 : Option Addr) =>
  bnd (drf r2) fun (p3 : Addr) =>
  bnd (ld (.int .u8) (Addr.add p3 1)) fun (v4 : Int) =>
  cnd (v4 != (4 : Int)) (
  ret (262 : Int)) (
  bnd (f63_ready x0 x1) fun (r5 : Unit) =>
  bnd (f62_runs x0) fun _ =>
  ret (0 : Int)))
noncomputable def Af24_Resume : Ann := (.two .nil (.two .nil (.two (.one (.two .nil (.two (.two .nil .nil) (.two .nil (.two (.two .nil .nil) .nil))))) (.two .dfr (.two .nil (.two .nil .nil))))))
theorem Bf24_Resume_ok : Bf24_Resume.Ok := mkC_ok mixed tysOk zerosOk eqsOk ⟨Sf63_ready, Sf64_of, Sf66_alive, trivial⟩ trivial
theorem Cf24_Resume_ok : Cf24_Resume.Ok := with_ok Bf24_Resume_ok ⟨SDf62, trivial⟩ trivial
theorem Ef24_Resume (x : (Option Addr × Int)) : evF Cf24_Resume Tryz.f24 25 (.pair .ptr (.int .i64)) (.int .i64) Af24_Resume x = f24_Resume x.1 x.2 := by kernel_rfl
theorem Sf24_Resume : SoundF Tryz.prog 24 ⟨(.pair .ptr (.int .i64)), (.int .i64), fun x => f24_Resume x.1 x.2⟩ :=
  soundF_of Cf24_Resume_ok Tryz.func24 (by kernel_rfl) (by kernel_rfl) Ef24_Resume
noncomputable def Cf4_works : Ctx := mkC Tryz.prog tys zeros eqs [(5, ⟨.unit, .ptr, fun _ => f5_sched_New⟩), (7, ⟨.ptr, (.int .i64), fun x => f7_Active x⟩), (11, ⟨(.pair .sl .sl), .bool, fun x => f11_SameInts x.1 x.2⟩), (13, ⟨.ptr, .sl, fun x => f13_Ready x⟩), (14, ⟨(.pair .ptr (.int .i64)), (.tup (.pair .sl (.pair (.int .i64) (.int .i64)))), fun x => f14_Waiting x.1 x.2⟩), (16, ⟨(.pair .ptr (.int .i64)), (.tup (.pair (.int .i64) (.int .i64))), fun x => f16_Fork x.1 x.2⟩), (17, ⟨.ptr, (.tup (.pair (.int .i64) (.int .i64))), fun x => f17_Semaphore x⟩), (18, ⟨(.pair .ptr (.int .i64)), (.int .i64), fun x => f18_Wait x.1 x.2⟩), (19, ⟨(.pair .ptr (.int .i64)), (.int .i64), fun x => f19_Signal x.1 x.2⟩), (20, ⟨(.pair .ptr (.int .i64)), (.int .i64), fun x => f20_Terminate x.1 x.2⟩), (21, ⟨.ptr, (.int .i64), fun x => f21_Yield x⟩), (22, ⟨(.pair .ptr (.pair (.int .i64) (.int .i64))), (.int .i64), fun x => f22_At x.1 x.2.1 x.2.2⟩), (23, ⟨(.pair .ptr (.int .i64)), (.tup (.pair (.int .i64) (.int .i64))), fun x => f23_Tick x.1 x.2⟩), (24, ⟨(.pair .ptr (.int .i64)), (.int .i64), fun x => f24_Resume x.1 x.2⟩)] []
/-- palaverpalaverlaw26.works -/
noncomputable def f4_works : M Bool :=
  bnd f5_sched_New fun (r1 : Option Addr) =>
  cnd (Option.isNone r1) (
  ret false) (
  bnd (f16_Fork r1 (5 : Int)) fun (r2 : (Int × Int)) =>
  bnd (f16_Fork r1 (5 : Int)) fun (r3 : (Int × Int)) =>
  bnd (f16_Fork r1 (7 : Int)) fun (r4 : (Int × Int)) =>
  bnd (f7_Active r1) fun (r5 : Int) =>
  bnd (f13_Ready r1) fun (r6 : Sl) =>
  bnd (runV Tryz.prog .sl (Instr.buildSlice 28 2 #[(0, .int .i64 (1 : Int)), (1, .int .i64 (2 : Int))])) fun (v7 : Sl) =>
  bnd (f11_SameInts r6 v7) fun (r8 : Bool) =>
  bnd (f17_Semaphore r1) fun (r9 : (Int × Int)) =>
  bnd (f18_Wait r1 (1 : Int)) fun (r10 : Int) =>
  bnd (f7_Active r1) fun (r11 : Int) =>
  bnd (f19_Signal r1 (1 : Int)) fun (r12 : Int) =>
  bnd (f7_Active r1) fun (r13 : Int) =>
  bnd (f20_Terminate r1 (3 : Int)) fun (r14 : Int) =>
  bnd (f21_Yield r1) fun (r15 : Int) =>
  bnd (f7_Active r1) fun (r16 : Int) =>
  bnd (f22_At r1 (1 : Int) (10 : Int)) fun (r17 : Int) =>
  bnd (f22_At r1 (1 : Int) (5 : Int)) fun (r18 : Int) =>
  bnd (f23_Tick r1 (10 : Int)) fun (r19 : (Int × Int)) =>
  bnd (f14_Waiting r1 (1 : Int)) fun (r20 : (Sl × (Int × Int))) =>
  bnd (f16_Fork r1 (17 : Int)) fun (r21 : (Int × Int)) =>
  bnd (f24_Resume r1 (9 : Int)) fun (r22 : Int) =>
  ret (cond (cond (cond (cond (cond (cond (cond (cond (cond (cond (cond (cond (cond (cond (cond (cond (cond (cond (cond (cond (cond (r2.1 == (1 : Int)) (r2.2 == (0 : Int)) false) (r3.1 == (2 : Int)) false) (r3.2 == (0 : Int)) false) (r4.1 == (3 : Int)) false) (r4.2 == (0 : Int)) false) (r5 == (3 : Int)) false) r8 false) (r9.1 == (1 : Int)) false) (r9.2 == (0 : Int)) false) (r10 == (0 : Int)) false) (r11 == (1 : Int)) false) (r12 == (0 : Int)) false) (r13 == (3 : Int)) false) (cond (cond (cond (cond (cond (cond (cond (cond (cond (cond (cond (cond (cond (cond (cond (r14 == (0 : Int)) (r15 == (0 : Int)) false) (r16 == (2 : Int)) false) (r17 == (0 : Int)) false) (r18 == (0 : Int)) false) (r19.1 == (2 : Int)) false) (r19.2 == (0 : Int)) false) (r20.2.1 == (2 : Int)) false) (r21.2 == (1 : Int)) false) (r22 == (260 : Int)) false) true false) true false) true false) true false) true false) true false) false) true false) true false) true false) true false) true false) true false) true false))
noncomputable def Af4_works : Ann := (.two .nil (.two .nil (.two (.two .nil (.two (.two .nil .nil) .nil)) (.two .nil (.two .nil (.two .nil (.two .nil (.two .nil (.two .nil (.two .nil (.two .nil (.two .nil (.two .nil (.two .nil (.two .nil (.two .nil (.two .nil (.two .nil (.two .nil (.two .nil (.two .nil (.two .nil (.two .nil (.two .nil (.two .nil (.two .nil .nil))))))))))))))))))))))))))
theorem Cf4_works_ok : Cf4_works.Ok := mkC_ok mixed tysOk zerosOk eqsOk ⟨Sf5_sched_New, Sf7_Active, Sf11_SameInts, Sf13_Ready, Sf14_Waiting, Sf16_Fork, Sf17_Semaphore, Sf18_Wait, Sf19_Signal, Sf20_Terminate, Sf21_Yield, Sf22_At, Sf23_Tick, Sf24_Resume, trivial⟩ trivial
theorem Ef4_works (x : Unit) : evF Cf4_works Tryz.f4 219 .unit .bool Af4_works x = f4_works := by kernel_rfl
theorem Sf4_works : SoundF Tryz.prog 4 ⟨.unit, .bool, fun _ => f4_works⟩ :=
  soundF_of Cf4_works_ok Tryz.func4 (by kernel_rfl) (by kernel_rfl) Ef4_works
noncomputable def Bf30_Suspend : Ctx := mkC Tryz.prog tys zeros eqs [(64, ⟨(.pair .ptr (.int .i64)), .ptr, fun x => f64_of x.1 x.2⟩), (66, ⟨(.pair .ptr (.int .i64)), (.int .i64), fun x => f66_alive x.1 x.2⟩), (67, ⟨(.pair .ptr (.int .i64)), (.tup .unit), fun x => f67_out x.1 x.2⟩)] []
noncomputable def Cf30_Suspend : Ctx := Bf30_Suspend.with [(62, ⟨.ptr, (.tup .unit), fun x => f62_runs x⟩)] []
/-- (*palaversched.Sched).Suspend -/
noncomputable def f30_Suspend (x0 : Option Addr) (x1 : Int) : M Int :=
  bnd (f66_alive x0 x1) fun (r1 : Int) =>
  cnd (r1 != (0 : Int)) (
  ret r1) (
  bnd (f64_of x0 x1) fun (r2 : Option Addr) =>
  bnd (drf r2) fun (p3 : Addr) =>
  bnd (ld (.int .u8) (Addr.add p3 1)) fun (v4 : Int) =>
  cnd (v4 == (4 : Int)) (
  ret (262 : Int)) (
  bnd (f67_out x0 x1) fun (r5 : Unit) =>
  bnd (f64_of x0 x1) fun (r6 : Option Addr) =>
  bnd (drf r6) fun (p7 : Addr) =>
  bnd (wrs (Addr.add p7 1) 0 [.int .u8 (4 : Int)]) fun _ =>
  bnd (f62_runs x0) fun _ =>
  ret (0 : Int)))
noncomputable def Af30_Suspend : Ann := (.two .nil (.two .nil (.two (.one (.two .nil (.two (.two .nil .nil) (.two .nil (.two (.two .nil .nil) .nil))))) (.two .dfr (.two .nil (.two .nil (.two .nil .nil)))))))
theorem Bf30_Suspend_ok : Bf30_Suspend.Ok := mkC_ok mixed tysOk zerosOk eqsOk ⟨Sf64_of, Sf66_alive, Sf67_out, trivial⟩ trivial
theorem Cf30_Suspend_ok : Cf30_Suspend.Ok := with_ok Bf30_Suspend_ok ⟨SDf62, trivial⟩ trivial
theorem Ef30_Suspend (x : (Option Addr × Int)) : evF Cf30_Suspend Tryz.f30 30 (.pair .ptr (.int .i64)) (.int .i64) Af30_Suspend x = f30_Suspend x.1 x.2 := by kernel_rfl
theorem Sf30_Suspend : SoundF Tryz.prog 30 ⟨(.pair .ptr (.int .i64)), (.int .i64), fun x => f30_Suspend x.1 x.2⟩ :=
  soundF_of Cf30_Suspend_ok Tryz.func30 (by kernel_rfl) (by kernel_rfl) Ef30_Suspend
noncomputable def Bf34_SetPriority : Ctx := mkC Tryz.prog tys zeros eqs [(63, ⟨(.pair .ptr (.int .i64)), (.tup .unit), fun x => f63_ready x.1 x.2⟩), (64, ⟨(.pair .ptr (.int .i64)), .ptr, fun x => f64_of x.1 x.2⟩), (66, ⟨(.pair .ptr (.int .i64)), (.int .i64), fun x => f66_alive x.1 x.2⟩), (67, ⟨(.pair .ptr (.int .i64)), (.tup .unit), fun x => f67_out x.1 x.2⟩)] []
noncomputable def Cf34_SetPriority : Ctx := Bf34_SetPriority.with [(62, ⟨.ptr, (.tup .unit), fun x => f62_runs x⟩)] []
/-- (*palaversched.Sched).SetPriority -/
noncomputable def f34_SetPriority (x0 : Option Addr) (x1 : Int) (x2 : Int) : M Int :=
  bnd (f66_alive x0 x1) fun (r1 : Int) =>
  cnd (r1 != (0 : Int)) (
  ret r1) (
  cnd (cond (decide (x2 < (1 : Int))) true (decide (x2 > (16 : Int)))) (
  ret (1 : Int)) (
  bnd (f64_of x0 x1) fun (r2 : Option Addr) =>
  bnd (drf r2) fun (p3 : Addr) =>
  bnd (ld (.int .u8) (Addr.add p3 1)) fun (v4 : Int) =>
  cnd (v4 != (1 : Int)) (
  bnd (drf r2) fun (p5 : Addr) =>
  bnd (wrs (Addr.add p5 0) 0 [.int .i64 x2]) fun _ =>
  bnd (f62_runs x0) fun _ =>
  ret (0 : Int)) (
  bnd (f67_out x0 x1) fun (r6 : Unit) =>
  bnd (drf r2) fun (p7 : Addr) =>
  bnd (wrs (Addr.add p7 0) 0 [.int .i64 x2]) fun _ =>
  bnd (f63_ready x0 x1) fun (r8 : Unit) =>
  bnd (f62_runs x0) fun _ =>
  ret (0 : Int))))
noncomputable def Af34_SetPriority : Ann := (.two .nil (.two .nil (.two (.one (.two .nil (.two (.two .nil .nil) (.two .nil (.two (.two .nil .nil) .nil))))) (.two .dfr (.two .nil (.two (.two .nil (.two (.two .nil (.two .nil .nil)) .nil)) (.two .nil (.two .nil (.two .nil (.two .nil .nil))))))))))
theorem Bf34_SetPriority_ok : Bf34_SetPriority.Ok := mkC_ok mixed tysOk zerosOk eqsOk ⟨Sf63_ready, Sf64_of, Sf66_alive, Sf67_out, trivial⟩ trivial
theorem Cf34_SetPriority_ok : Cf34_SetPriority.Ok := with_ok Bf34_SetPriority_ok ⟨SDf62, trivial⟩ trivial
theorem Ef34_SetPriority (x : (Option Addr × (Int × Int))) : evF Cf34_SetPriority Tryz.f34 46 (.pair .ptr (.pair (.int .i64) (.int .i64))) (.int .i64) Af34_SetPriority x = f34_SetPriority x.1 x.2.1 x.2.2 := by kernel_rfl
theorem Sf34_SetPriority : SoundF Tryz.prog 34 ⟨(.pair .ptr (.pair (.int .i64) (.int .i64))), (.int .i64), fun x => f34_SetPriority x.1 x.2.1 x.2.2⟩ :=
  soundF_of Cf34_SetPriority_ok Tryz.func34 (by kernel_rfl) (by kernel_rfl) Ef34_SetPriority
noncomputable def Cf38_Listen : Ctx := mkC Tryz.prog tys zeros eqs [(52, ⟨(.pair .ptr (.int .i64)), .ptr, fun x => f52_sem x.1 x.2⟩)] []
/-- (*palaversched.Sched).Listen -/
noncomputable def f38_Listen (x0 : Option Addr) (x1 : Int) (x2 : Int) : M Int :=
  cnd (cond (decide (x1 < (0 : Int))) true (decide (x1 ≥ (64 : Int)))) (
  ret (1 : Int)) (
  bnd (
  cnd (x2 != (0 : Int)) (
  bnd (f52_sem x0 x2) fun (r1 : Option Addr) =>
  ret (Option.isNone r1)) (
  ret false)) fun (b2 : Bool) =>
  cnd b2 (
  ret (261 : Int)) (
  bnd (drf x0) fun (p3 : Addr) =>
  bnd (ixA 64 1 (Addr.add p3 23) x1) fun (p4 : Addr) =>
  bnd (wrs p4 0 [.int .i64 x2]) fun _ =>
  ret (0 : Int)))
noncomputable def Af38_Listen : Ann := (.two .nil (.two (.one (.two .nil (.two (.two .nil .nil) (.two .nil (.two (.two .nil .nil) .nil))))) (.two .nil (.two .nil .nil))))
theorem Cf38_Listen_ok : Cf38_Listen.Ok := mkC_ok mixed tysOk zerosOk eqsOk ⟨Sf52_sem, trivial⟩ trivial
theorem Ef38_Listen (x : (Option Addr × (Int × Int))) : evF Cf38_Listen Tryz.f38 29 (.pair .ptr (.pair (.int .i64) (.int .i64))) (.int .i64) Af38_Listen x = f38_Listen x.1 x.2.1 x.2.2 := by kernel_rfl
theorem Sf38_Listen : SoundF Tryz.prog 38 ⟨(.pair .ptr (.pair (.int .i64) (.int .i64))), (.int .i64), fun x => f38_Listen x.1 x.2.1 x.2.2⟩ :=
  soundF_of Cf38_Listen_ok Tryz.func38 (by kernel_rfl) (by kernel_rfl) Ef38_Listen
noncomputable def Cf40_Event : Ctx := mkC Tryz.prog tys zeros eqs [(19, ⟨(.pair .ptr (.int .i64)), (.int .i64), fun x => f19_Signal x.1 x.2⟩)] []
/-- (*palaversched.Sched).Event -/
noncomputable def f40_Event (x0 : Option Addr) (x1 : Int) : M Bool :=
  bnd (
  cnd (cond (decide (x1 < (0 : Int))) true (decide (x1 ≥ (64 : Int)))) (
  ret true) (
  bnd (drf x0) fun (p1 : Addr) =>
  bnd (ixA 64 1 (Addr.add p1 23) x1) fun (p2 : Addr) =>
  bnd (ld (.int .i64) p2) fun (v3 : Int) =>
  ret (v3 == (0 : Int)))) fun (b4 : Bool) =>
  cnd b4 (
  ret false) (
  bnd (drf x0) fun (p5 : Addr) =>
  bnd (ixA 64 1 (Addr.add p5 23) x1) fun (p6 : Addr) =>
  bnd (ld (.int .i64) p6) fun (v7 : Int) =>
  bnd (f19_Signal x0 v7) fun (r8 : Int) =>
  ret true)
noncomputable def Af40_Event : Ann := (.two .nil (.two (.two .nil (.two (.two .nil .nil) .nil)) (.two .nil (.two .nil .nil))))
theorem Cf40_Event_ok : Cf40_Event.Ok := mkC_ok mixed tysOk zerosOk eqsOk ⟨Sf19_Signal, trivial⟩ trivial
theorem Ef40_Event (x : (Option Addr × Int)) : evF Cf40_Event Tryz.f40 28 (.pair .ptr (.int .i64)) .bool Af40_Event x = f40_Event x.1 x.2 := by kernel_rfl
theorem Sf40_Event : SoundF Tryz.prog 40 ⟨(.pair .ptr (.int .i64)), .bool, fun x => f40_Event x.1 x.2⟩ :=
  soundF_of Cf40_Event_ok Tryz.func40 (by kernel_rfl) (by kernel_rfl) Ef40_Event
noncomputable def Cf76_Standing : Ctx := mkC Tryz.prog tys zeros eqs [(64, ⟨(.pair .ptr (.int .i64)), .ptr, fun x => f64_of x.1 x.2⟩)] []
/-- (*palaversched.Sched).Standing -/
noncomputable def f76_Standing (x0 : Option Addr) (x1 : Int) : M (Int × (Int × Int)) :=
  bnd (
  cnd (decide (x1 < (1 : Int))) (
  ret true) (
  bnd (drf x0) fun (p1 : Addr) =>
  bnd (ld .sl (Addr.add p1 2)) fun (v2 : Sl) =>
  ret (decide (x1 > (v2.len : Int))))) fun (b3 : Bool) =>
  cnd b3 (
  ret ((0 : Int), (0 : Int), (260 : Int))) (
  bnd (f64_of x0 x1) fun (r4 : Option Addr) =>
  bnd drawM fun _ =>
  bnd (drf r4) fun (p5 : Addr) =>
  bnd (ld (.int .u8) (Addr.add p5 1)) fun (v6 : Int) =>
  bnd (drf r4) fun (p7 : Addr) =>
  bnd (ld (.int .i64) (Addr.add p7 0)) fun (v8 : Int) =>
  ret (v6, v8, (0 : Int)))
noncomputable def Af76_Standing : Ann := (.two .nil (.two (.two .nil (.two (.two .nil .nil) .nil)) (.two .nil (.two .nil .nil))))
theorem Cf76_Standing_ok : Cf76_Standing.Ok := mkC_ok mixed tysOk zerosOk eqsOk ⟨Sf64_of, trivial⟩ trivial
theorem Ef76_Standing (x : (Option Addr × Int)) : evF Cf76_Standing Tryz.f76 30 (.pair .ptr (.int .i64)) (.tup (.pair (.int .u8) (.pair (.int .i64) (.int .i64)))) Af76_Standing x = f76_Standing x.1 x.2 := by kernel_rfl
theorem Sf76_Standing : SoundF Tryz.prog 76 ⟨(.pair .ptr (.int .i64)), (.tup (.pair (.int .u8) (.pair (.int .i64) (.int .i64)))), fun x => f76_Standing x.1 x.2⟩ :=
  soundF_of Cf76_Standing_ok Tryz.func76 (by kernel_rfl) (by kernel_rfl) Ef76_Standing
noncomputable def Cf80_Next : Ctx := mkC Tryz.prog tys zeros eqs [] []
/-- (*palaversched.Sched).Next -/
noncomputable def f80_Next (x0 : Option Addr) : M (Int × Bool) :=
  bnd (drf x0) fun (p1 : Addr) =>
  bnd (ld .sl (Addr.add p1 21)) fun (v2 : Sl) =>
  cnd ((v2.len : Int) == (0 : Int)) (
  ret ((0 : Int), false)) (
  bnd (drf x0) fun (p3 : Addr) =>
  bnd (ld .sl (Addr.add p3 21)) fun (v4 : Sl) =>
  bnd (ix 3 v4 (0 : Int)) fun (p5 : Addr) =>
  bnd (ld (.int .i64) (Addr.add p5 0)) fun (v6 : Int) =>
  ret (v6, true))
noncomputable def Af80_Next : Ann := (.two .nil (.two (.two .nil (.two (.two .nil .nil) .nil)) (.two .nil .nil)))
theorem Cf80_Next_ok : Cf80_Next.Ok := mkC_ok mixed tysOk zerosOk eqsOk trivial trivial
theorem Ef80_Next (x : Option Addr) : evF Cf80_Next Tryz.f80 17 .ptr (.tup (.pair (.int .i64) .bool)) Af80_Next x = f80_Next x := by kernel_rfl
theorem Sf80_Next : SoundF Tryz.prog 80 ⟨.ptr, (.tup (.pair (.int .i64) .bool)), fun x => f80_Next x⟩ :=
  soundF_of Cf80_Next_ok Tryz.func80 (by kernel_rfl) (by kernel_rfl) Ef80_Next
end Go.Proofs.YtkkdeljladihpaaGreat
